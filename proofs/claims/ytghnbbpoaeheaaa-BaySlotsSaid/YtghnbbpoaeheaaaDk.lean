/- A disk as plain data, what its operations make of it, and how it lies in memory. -/
import Derived.Test.YtghnbbpoaeheaaaLib
namespace Go.Proofs.Ytghnbbpoaeheaaa
open Go.RowKit

/-- A disk: its lasting sectors, its cache, whether it has failed. -/
structure Dk where
  las : List (List Int)
  cache : List (Nat × List Int)
  failed : Bool

/-- What the cache has of a sector: its last write. -/
def cached (c : List (Nat × List Int)) (i : Nat) : Option (List Int) := (c.reverse.find? (fun e => e.1 == i)).map (·.2)

def Dk.code (D : Dk) (at_ : Int) : Int := if D.failed then 2 else if at_ < 0 ∨ (D.las.length : Int) ≤ at_ then 3 else 0
def Dk.get (D : Dk) (i : Nat) : List Int := (cached D.cache i).getD (D.las.getD i [])
def Dk.read (D : Dk) (at_ : Int) : List Int := if D.code at_ = 0 then D.get at_.toNat else []
def Dk.wcode (D : Dk) (at_ : Int) (n : Nat) : Int := if D.code at_ = 0 then (if n = 128 then 0 else 4) else D.code at_
def Dk.write (D : Dk) (at_ : Int) (b : List Int) : Dk := if D.wcode at_ b.length = 0 then { D with cache := D.cache ++ [(at_.toNat, b)] } else D
/-- Of the writes of the cache those make last that are kept: their numbers begin with i. -/
def settled (keep : Nat → Bool) : Nat → List (Nat × List Int) → List (List Int) → List (List Int)
  | _, [], las => las
  | i, e :: r, las => settled keep (i + 1) r (if keep i then las.set e.1 e.2 else las)
def Dk.settle (D : Dk) (keep : Nat → Bool) : Dk := { D with las := settled keep 0 D.cache D.las, cache := [] }
def Dk.fcode (D : Dk) : Int := if D.failed then 2 else 0
def Dk.flush (D : Dk) : Dk := if D.failed then D else D.settle (fun _ => true)
def Dk.fail (D : Dk) : Dk := { D with failed := true, cache := [] }
def keepOf (l : List Bool) (i : Nat) : Bool := l.getD i false
def Dk.crash (D : Dk) (l : List Bool) : Dk := D.settle (keepOf l)
def Dk.image (D : Dk) : List Int := if D.failed then [] else D.las.flatten
def Dk.pending (D : Dk) : List Int := D.cache.map fun e => (e.1 : Int)
def Dk.new (n : Nat) : Dk := { las := List.replicate n (List.replicate 128 0), cache := [], failed := false }

structure Dk.Ok (D : Dk) : Prop where
  pos : 1 ≤ D.las.length
  le : D.las.length ≤ 8192
  sec : ∀ s ∈ D.las, s.length = 128
  ent : ∀ e ∈ D.cache, e.1 < D.las.length ∧ e.2.length = 128
  dead : D.failed = true → D.cache = []

theorem cached_nil (i : Nat) : cached [] i = none := rfl
theorem cached_snoc (c : List (Nat × List Int)) (e : Nat × List Int) (i : Nat) : cached (c ++ [e]) i = if e.1 = i then some e.2 else cached c i := by
  unfold cached
  rw [List.reverse_append, List.reverse_singleton, List.singleton_append, List.find?_cons]
  by_cases h : e.1 = i
  · simp [h]
  · have : (e.1 == i) = false := by simpa using h
    simp [this, h]
theorem cached_mem {c : List (Nat × List Int)} {i : Nat} {d : List Int} (h : cached c i = some d) : (i, d) ∈ c := by
  unfold cached at h
  cases hf : c.reverse.find? (fun e => e.1 == i) with
  | none => rw [hf] at h; cases h
  | some e =>
    rw [hf] at h
    have hm := List.mem_of_find?_eq_some hf
    have hp := List.find?_some hf
    simp only [Option.map_some, Option.some.injEq] at h
    have h1 : e.1 = i := by simpa using hp
    have : e = (i, d) := by cases e; simp_all
    rw [← this]
    simpa using hm

theorem length_settled (keep : Nat → Bool) : ∀ (c : List (Nat × List Int)) (i : Nat) (las : List (List Int)), (settled keep i c las).length = las.length
  | [], _, _ => rfl
  | e :: r, i, las => by rw [settled, length_settled keep r]; split <;> simp
theorem sec_settled (keep : Nat → Bool) : ∀ (c : List (Nat × List Int)) (i : Nat) (las : List (List Int)), (∀ e ∈ c, e.2.length = 128) → (∀ s ∈ las, s.length = 128) → ∀ s ∈ settled keep i c las, s.length = 128
  | [], _, _, _, h => h
  | e :: r, i, las, hc, h => by
    rw [settled]
    refine sec_settled keep r (i + 1) _ (fun x hx => hc x (List.mem_cons_of_mem _ hx)) ?_
    split
    · intro s hs
      rcases List.mem_or_eq_of_mem_set hs with hs | rfl
      · exact h s hs
      · exact hc e List.mem_cons_self
    · exact h
theorem settled_snoc (keep : Nat → Bool) : ∀ (c : List (Nat × List Int)) (e : Nat × List Int) (i : Nat) (las : List (List Int)),
    settled keep i (c ++ [e]) las = if keep (i + c.length) then (settled keep i c las).set e.1 e.2 else settled keep i c las
  | [], e, i, las => by simp [settled]
  | x :: r, e, i, las => by
    rw [List.cons_append, settled, settled, settled_snoc keep r e (i + 1), List.length_cons, show i + (r.length + 1) = i + 1 + r.length by omega]
theorem settled_none : ∀ (c : List (Nat × List Int)) (i : Nat) (las : List (List Int)), settled (fun _ => false) i c las = las
  | [], _, _ => rfl
  | e :: r, i, las => by rw [settled]; simp [settled_none r]

theorem Dk.Ok.settle {D : Dk} (h : D.Ok) (keep : Nat → Bool) : (D.settle keep).Ok where
  pos := by simp only [Dk.settle, length_settled]; exact h.pos
  le := by simp only [Dk.settle, length_settled]; exact h.le
  sec := sec_settled keep _ _ _ (fun e he => (h.ent e he).2) h.sec
  ent := fun e he => by simp [Dk.settle] at he
  dead := fun _ => rfl
theorem Dk.Ok.fail {D : Dk} (h : D.Ok) : D.fail.Ok := ⟨h.pos, h.le, h.sec, fun e he => by simp [Dk.fail] at he, fun _ => rfl⟩
theorem Dk.Ok.flush {D : Dk} (h : D.Ok) : D.flush.Ok := by unfold Dk.flush; split; exact h; exact h.settle _
theorem Dk.code_zero {D : Dk} {at_ : Int} (h : D.code at_ = 0) : D.failed = false ∧ 0 ≤ at_ ∧ at_ < D.las.length := by
  unfold Dk.code at h
  split at h
  · cases h
  · split at h
    · cases h
    · rename_i h1 h2; exact ⟨by simpa using h1, by omega, by omega⟩
theorem Dk.Ok.write {D : Dk} (h : D.Ok) (at_ : Int) (b : List Int) : (D.write at_ b).Ok := by
  unfold Dk.write
  split
  · rename_i hc
    have hc0 : D.code at_ = 0 ∧ b.length = 128 := by
      unfold Dk.wcode at hc
      split at hc
      · split at hc
        · rename_i a c; exact ⟨a, c⟩
        · cases hc
      · rename_i a; exact absurd hc a
    obtain ⟨hf, h1, h2⟩ := Dk.code_zero hc0.1
    refine ⟨h.pos, h.le, h.sec, fun e he => ?_, fun hd => by simp [hf] at hd⟩
    rcases List.mem_append.1 he with he | he
    · exact h.ent e he
    · obtain rfl : e = (at_.toNat, b) := by simpa using he
      exact ⟨by show at_.toNat < D.las.length; omega, hc0.2⟩
  · exact h
theorem Dk.ok_new {n : Nat} (h1 : 1 ≤ n) (h2 : n ≤ 8192) : (Dk.new n).Ok where
  pos := by simpa [Dk.new] using h1
  le := by simpa [Dk.new] using h2
  sec := fun s hs => by rw [(List.mem_replicate.1 hs).2]; simp
  ent := fun e he => by simp [Dk.new] at he
  dead := fun h => by simp [Dk.new] at h
theorem Dk.Ok.get {D : Dk} (h : D.Ok) {i : Nat} (hi : i < D.las.length) : (D.get i).length = 128 := by
  unfold Dk.get
  cases hc : cached D.cache i with
  | none => simp [hi]; exact h.sec _ (List.getElem_mem hi)
  | some d => simpa using (h.ent _ (cached_mem hc)).2

/-! ### in memory -/
def u8s (l : List Int) : List Value := l.map (Value.int .u8)
@[simp] theorem length_u8s (l : List Int) : (u8s l).length = l.length := by simp [u8s]
theorem u8s_append (a b : List Int) : u8s (a ++ b) = u8s a ++ u8s b := by simp [u8s]
theorem u8s_one (l : List Int) : ∀ v ∈ u8s l, v.oneCell' = true := by
  intro v hv; obtain ⟨n, _, rfl⟩ := List.mem_map.1 hv; rfl
def entCells (e : Nat × List Int) : List Value := .int .i64 e.1 :: u8s e.2
def cacheCells (c : List (Nat × List Int)) : List Value := c.flatMap entCells
def lasCells (las : List (List Int)) : List Value := u8s las.flatten

/-- The map of a disk tells of each sector which write of the cache was its last. -/
def SeenOk (es : Array MapEntry) (c : List (Nat × List Int)) : Prop :=
  ∃ l : List (Nat × Nat), es.toList.map (fun e => (e.key, e.val)) = l.map (fun p => (.int .i64 p.1, .int .i64 p.2)) ∧
    ∀ i : Nat, match l.find? (fun p => p.1 == i) with
      | some p => ∃ d, c[p.2]? = some (i, d) ∧ cached c i = some d
      | none => cached c i = none

/-- A disk's own blocks: its head, its lasting sectors, its map, its cache. -/
def DiskAt (w : World) (b : Nat) (D : Dk) (F : Nat → Prop) : Prop :=
  ∃ (bL bS : Nat) (csl : Value) (es : Array MapEntry) (ck : Nat),
    w.heap[b]? = some (.cells #[.slice (some ⟨bL, 0, none⟩) D.las.length D.las.length, csl, .map (some bS), .bool D.failed] 100 (0, 0)) ∧
    w.heap[bL]? = some (.cells (lasCells D.las).toArray 102 (0, 0)) ∧
    w.heap[bS]? = some (.map es ck) ∧ SeenOk es D.cache ∧
    w.ownsRow 0 142 129 csl D.cache.length (cacheCells D.cache) ∧
    (∀ x, F x ↔ x = b ∨ x = bL ∨ x = bS ∨ csl.ownBlock = some x) ∧ D.Ok

/-- A list of bytes as a slice. -/
def BytesAt (w : World) (v : Value) (l : List Int) : Prop :=
  ∃ a cap, v = .slice a l.length cap ∧ l.length ≤ cap ∧ cap ≤ maxLen ∧ (l ≠ [] → ∃ bb o, a = some ⟨bb, o, none⟩ ∧ w.rangeAt bb o (u8s l))

/-- A list of bytes in a row of its own, from block 'base' on. -/
def OwnB (w : World) (base : Nat) (v : Value) (l : List Int) : Prop := w.ownsRow base 5 1 v l.length (u8s l)

theorem DiskAt.lt {w : World} {b : Nat} {D : Dk} {F : Nat → Prop} (h : DiskAt w b D F) : ∀ x, F x → x < w.heap.size := by
  obtain ⟨bL, bS, csl, es, ck, h1, h2, h3, _, h5, hF, _⟩ := h
  intro x hx
  rcases (hF x).1 hx with rfl | rfl | rfl | hc
  · exact lt_of_heap h1
  · exact lt_of_heap h2
  · exact lt_of_heap h3
  · exact (h5.lt x hc).2
theorem DiskAt.ok {w : World} {b : Nat} {D : Dk} {F : Nat → Prop} (h : DiskAt w b D F) : D.Ok := by
  obtain ⟨_, _, _, _, _, _, _, _, _, _, _, ok⟩ := h; exact ok
theorem DiskAt.mem {w : World} {b : Nat} {D : Dk} {F : Nat → Prop} (h : DiskAt w b D F) : F b := by
  obtain ⟨_, _, _, _, _, _, _, _, _, _, hF, _⟩ := h; exact (hF b).2 (.inl rfl)
theorem ownsRow_keep {w w' : World} {base e size n : Nat} {v : Value} {xs : List Value} {G : Nat → Prop} (h : w.ownsRow base e size v n xs) (hk : Keep G w w') (hG : ∀ x, v.ownBlock = some x → ¬ G x) : w'.ownsRow base e size v n xs := by
  obtain ⟨h1, h2⟩ := h
  refine ⟨h1, ?_⟩
  rcases h2 with h2 | ⟨g, cap, cur, hv, hg, hh, r⟩
  · exact .inl h2
  · exact .inr ⟨g, cap, cur, hv, hg, hk.at hh (hG g (by rw [hv]; rfl)), r⟩
theorem DiskAt.keep {w w' : World} {b : Nat} {D : Dk} {F G : Nat → Prop} (h : DiskAt w b D F) (hk : Keep G w w') (hG : ∀ x, F x → ¬ G x) : DiskAt w' b D F := by
  obtain ⟨bL, bS, csl, es, ck, h1, h2, h3, h4, h5, hF, ok⟩ := h
  exact ⟨bL, bS, csl, es, ck, hk.at h1 (hG _ ((hF _).2 (.inl rfl))), hk.at h2 (hG _ ((hF _).2 (.inr (.inl rfl)))), hk.at h3 (hG _ ((hF _).2 (.inr (.inr (.inl rfl))))), h4,
    ownsRow_keep h5 hk (fun x hx => hG x ((hF x).2 (.inr (.inr (.inr hx))))), hF, ok⟩
theorem BytesAt.keep {w w' : World} {v : Value} {l : List Int} {G : Nat → Prop} (h : BytesAt w v l) (hk : Keep G w w') (hG : ∀ a n c, v = .slice (some a) n c → ¬ G a.block) : BytesAt w' v l := by
  obtain ⟨a, cap, hv, h1, h2, h3⟩ := h
  refine ⟨a, cap, hv, h1, h2, fun hl => ?_⟩
  obtain ⟨bb, o, ha, hr⟩ := h3 hl
  refine ⟨bb, o, ha, fun j u hu => ?_⟩
  have hc := hr j u hu
  have hb := World.block_lt_of_cell? w _ hc
  rw [World.cell?_of_block (w := w) (hk.block bb hb (by subst ha; exact hG _ _ _ hv))]
  exact hc
theorem OwnB.bytes {w : World} {base : Nat} {v : Value} {l : List Int} (h : OwnB w base v l) : BytesAt w v l := by
  obtain ⟨h1, h2⟩ := h
  rcases h2 with ⟨rfl, hn⟩ | ⟨g, cap, cur, hv, hg, hh, hc, hm, hs, ht⟩
  · have : l = [] := List.length_eq_zero_iff.1 hn
    subst this
    exact ⟨none, 0, rfl, Nat.le_refl _, by simp [maxLen], fun h => absurd rfl h⟩
  · refine ⟨_, cap, hv, hc, hm, fun _ => ⟨g, 0, rfl, ?_⟩⟩
    refine range_at hh 0 _ ?_
    rw [List.drop_zero]
    simpa using ht
end Go.Proofs.Ytghnbbpoaeheaaa
