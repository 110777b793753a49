/- Words and laws on memory that the proofs of this seat share: what a call leaves as it was, rows of many cells read and written whole. -/
import Derived.Test.YtghnbbpoaeheaaaProg
import Derived.WalkKit
import Derived.WalkLawsBesides
import Derived.BigQuiet
import Derived.Deep.MidRow
import Derived.Deep.DeepMust
import Derived.Lib.Hide
import Derived.Lib.LazyBuf
import Derived.WalkSpells
namespace Go.Proofs.Ytghnbbpoaeheaaa
open Go.RowKit

/-- What the blocks outside F held is as it was; the streams stand. -/
structure Keep (F : Nat → Prop) (w w' : World) : Prop where
  os : w'.os = w.os
  tape : w'.tape = w.tape
  output : w'.output = w.output
  size : w.heap.size ≤ w'.heap.size
  block : ∀ k, k < w.heap.size → ¬ F k → w'.heap[k]? = w.heap[k]?

theorem Keep.refl (F : Nat → Prop) (w : World) : Keep F w w := ⟨rfl, rfl, rfl, Nat.le_refl _, fun _ _ _ => rfl⟩
theorem Keep.mono {F G : Nat → Prop} {w w' : World} (h : Keep F w w') (hFG : ∀ k, k < w.heap.size → F k → G k) : Keep G w w' :=
  ⟨h.os, h.tape, h.output, h.size, fun k hk hn => h.block k hk (fun hf => hn (hFG k hk hf))⟩
theorem Keep.trans {F G : Nat → Prop} {a b c : World} (h : Keep F a b) (k : Keep G b c) (hG : ∀ x, x < a.heap.size → G x → F x) : Keep F a c :=
  ⟨k.os.trans h.os, k.tape.trans h.tape, k.output.trans h.output, Nat.le_trans h.size k.size,
   fun i hi hn => (k.block i (Nat.lt_of_lt_of_le hi h.size) (fun hg => hn (hG i hi hg))).trans (h.block i hi hn)⟩
theorem Keep.trans' {F : Nat → Prop} {a b c : World} (h : Keep F a b) (k : Keep F b c) : Keep F a c := h.trans k fun _ _ hx => hx
theorem Keep.alloc (F : Nat → Prop) (w : World) (o : Obj) : Keep F w (w.alloc o) :=
  ⟨rfl, rfl, rfl, by simp, fun k hk _ => Below.heap_alloc _ _ _ hk⟩
theorem Keep.drew (F : Nat → Prop) (w : World) : Keep F w w.drew := ⟨rfl, rfl, rfl, Nat.le_refl _, fun _ _ _ => rfl⟩
theorem Keep.drewN (F : Nat → Prop) (w : World) (n : Nat) : Keep F w (w.drewN n) := ⟨rfl, rfl, rfl, Nat.le_refl _, fun _ _ _ => rfl⟩
theorem Keep.setCell {F : Nat → Prop} (w : World) (p : Addr) (u : Value) (hF : F p.block) : Keep F w (w.setCell p u) :=
  ⟨rfl, rfl, rfl, by simp [World.setCell], fun k _ hn => Below.heap_setCell _ _ _ _ (fun e => hn (e ▸ hF))⟩
theorem Keep.setRow {F : Nat → Prop} (w : World) (g : Nat) (cs : Array Value) (hF : F g) : Keep F w (w.setRow g cs) :=
  ⟨rfl, rfl, rfl, by simp, fun k _ hn => setRow_other _ _ _ _ (fun e => hn (e ▸ hF))⟩
theorem Keep.grown {F : Nat → Prop} {w w' : World} {row : Option Nat} (hg : w.grownBy w' row) (hr : ∀ k, row = some k → F k) : Keep F w w' :=
  ⟨hg.os, hg.tape, hg.output, hg.size, fun k hk hn => hg.block k hk (fun e => hn (hr k e.symm))⟩
theorem Keep.below {F : Nat → Prop} {w w' : World} (h : Keep F w w') (B : Nat) (hB : B ≤ w.heap.size) (hF : ∀ k, F k → B ≤ k) : Below B w w' :=
  ⟨h.os, h.tape, h.output, h.size, fun k hk => h.block k (by omega) (fun hf => by have := hF k hf; omega)⟩
theorem Keep.at {F : Nat → Prop} {w w' : World} (h : Keep F w w') {k : Nat} {o : Obj} (hk : w.heap[k]? = some o) (hn : ¬ F k) : w'.heap[k]? = some o := by
  rw [h.block k (Array.getElem?_eq_some_iff.1 hk).1 hn]; exact hk
theorem lt_of_heap {w : World} {k : Nat} {o : Obj} (hk : w.heap[k]? = some o) : k < w.heap.size := (Array.getElem?_eq_some_iff.1 hk).1

/-- A cell out of a block that is known whole. -/
theorem cell_at {w : World} {b : Nat} {cs : Array Value} {t : TypeId} {fr : Nat × Nat} (h : w.heap[b]? = some (.cells cs t fr)) (i : Nat) {v : Value} (hv : cs[i]? = some v) : w.cell? ⟨b, i, none⟩ = some v := by
  rw [cell_of_row w b i cs t fr h]; exact hv
theorem free_at {w : World} {b : Nat} {cs : Array Value} {t : TypeId} (h : w.heap[b]? = some (.cells cs t (0, 0))) (i : Nat) : w.frozen? ⟨b, i, none⟩ = false := frozen_of_row w b i cs t h

/-- The cells from 'o' on, as many as xs has. -/
theorem range_at {w : World} {b : Nat} {cs : Array Value} {t : TypeId} {fr : Nat × Nat} (h : w.heap[b]? = some (.cells cs t fr)) (o : Nat) (xs : List Value) (hx : (cs.toList.drop o).take xs.length = xs) : w.rangeAt b o xs := fun j v hv => by
  have hj : j < xs.length := (List.getElem?_eq_some_iff.1 hv).1
  rw [cell_of_row w b (o + j) cs t fr h]
  rw [← hx, List.getElem?_take, if_pos hj, List.getElem?_drop] at hv
  simpa using hv
theorem there_at {w : World} {b : Nat} {cs : Array Value} {t : TypeId} (h : w.heap[b]? = some (.cells cs t (0, 0))) (o n : Nat) (hn : o + n ≤ cs.size) : w.there b o n := fun j hj =>
  ⟨by rw [cell_of_row w b (o + j) cs t (0, 0) h]; simp; omega, frozen_of_row w b (o + j) cs t h⟩

/-- What a row of cells becomes where vs is laid over it from o on. -/
def over (cs : Array Value) : Nat → List Value → Array Value
  | _, [] => cs
  | o, v :: r => over (cs.setIfInBounds o v) (o + 1) r
theorem size_over : ∀ (vs : List Value) (cs : Array Value) (o : Nat), (over cs o vs).size = cs.size
  | [], _, _ => rfl
  | v :: r, cs, o => by rw [over, size_over r]; simp
theorem get_over : ∀ (vs : List Value) (cs : Array Value) (o i : Nat), o + vs.length ≤ cs.size → (over cs o vs)[i]? = if o ≤ i ∧ i < o + vs.length then vs[i - o]? else cs[i]?
  | [], cs, o, i, _ => by
    rw [over, if_neg]
    rintro ⟨h1, h2⟩
    simp only [List.length_nil] at h2
    omega
  | v :: r, cs, o, i, h => by
    have h' : o + (r.length + 1) ≤ cs.size := by simpa using h
    rw [over, get_over r _ (o + 1) i (by simp; omega), List.length_cons]
    by_cases h1 : o + 1 ≤ i ∧ i < o + 1 + r.length
    · rw [if_pos h1, if_pos (by omega)]
      obtain ⟨k, hk⟩ : ∃ k, i = o + 1 + k := ⟨i - (o + 1), by omega⟩
      subst hk
      rw [show o + 1 + k - (o + 1) = k by omega, show o + 1 + k - o = k + 1 by omega, List.getElem?_cons_succ]
    · rw [if_neg h1, Array.getElem?_setIfInBounds]
      by_cases h2 : o = i
      · subst h2
        rw [if_pos rfl, if_pos (by omega), if_pos (by omega), Nat.sub_self]
        rfl
      · rw [if_neg h2, if_neg (by omega)]
theorem setRow_self {w : World} {b : Nat} {cs : Array Value} {t : TypeId} {fr : Nat × Nat} (h : w.heap[b]? = some (.cells cs t fr)) : w.setRow b cs = w := by
  have e : ∀ f : Obj → Obj, f (.cells cs t fr) = .cells cs t fr → w.heap.modify b f = w.heap := fun f hf => by
    apply Array.ext_getElem?
    intro i
    rw [Array.getElem?_modify]
    split
    · rename_i e; subst e; rw [h]; simp [hf]
    · rfl
  unfold World.setRow
  rw [e _ rfl]
theorem setCells_over : ∀ (vs : List Value) (w : World) (b o : Nat) (cs : Array Value) (t : TypeId) (fr : Nat × Nat), w.heap[b]? = some (.cells cs t fr) →
    (w.setCells b o vs) = w.setRow b (over cs o vs)
  | [], w, b, o, cs, t, fr, h => by
    rw [World.setCells, over, setRow_self h]
  | v :: r, w, b, o, cs, t, fr, h => by
    rw [World.setCells, over, setCell_eq_setRow w b o cs t fr v h, setCells_over r _ b (o + 1) _ t fr (setRow_heap w b cs _ t fr h), setRow_setRow]

end Go.Proofs.Ytghnbbpoaeheaaa

/- A disk as plain data, what its operations make of it, and how it lies in memory. -/
namespace Go.Proofs.Ytghnbbpoaeheaaa
open Go.RowKit

/-- A disk: its lasting sectors, its cache, whether it has failed. -/
structure Dk where
  las : List (List Int)
  cache : List (Nat × List Int)
  failed : Bool

/-- What the cache has of a sector: its last write. -/
def cached (c : List (Nat × List Int)) (i : Nat) : Option (List Int) := (c.reverse.find? (fun e => e.1 == i)).map (·.2)

def Dk.code (D : Dk) (at_ : Int) : Int := if D.failed then 2 else if at_ < 0 ∨ (D.las.length : Int) ≤ at_ then 3 else 0
def Dk.get (D : Dk) (i : Nat) : List Int := (cached D.cache i).getD (D.las.getD i [])
def Dk.read (D : Dk) (at_ : Int) : List Int := if D.code at_ = 0 then D.get at_.toNat else []
def Dk.wcode (D : Dk) (at_ : Int) (n : Nat) : Int := if D.code at_ = 0 then (if n = 128 then 0 else 4) else D.code at_
def Dk.write (D : Dk) (at_ : Int) (b : List Int) : Dk := if D.wcode at_ b.length = 0 then { D with cache := D.cache ++ [(at_.toNat, b)] } else D
/-- Of the writes of the cache those make last that are kept: their numbers begin with i. -/
def settled (keep : Nat → Bool) : Nat → List (Nat × List Int) → List (List Int) → List (List Int)
  | _, [], las => las
  | i, e :: r, las => settled keep (i + 1) r (if keep i then las.set e.1 e.2 else las)
def Dk.settle (D : Dk) (keep : Nat → Bool) : Dk := { D with las := settled keep 0 D.cache D.las, cache := [] }
def Dk.fcode (D : Dk) : Int := if D.failed then 2 else 0
def Dk.flush (D : Dk) : Dk := if D.failed then D else D.settle (fun _ => true)
def Dk.fail (D : Dk) : Dk := { D with failed := true, cache := [] }
def keepOf (l : List Bool) (i : Nat) : Bool := l.getD i false
def Dk.crash (D : Dk) (l : List Bool) : Dk := D.settle (keepOf l)
def Dk.image (D : Dk) : List Int := if D.failed then [] else D.las.flatten
def Dk.pending (D : Dk) : List Int := D.cache.map fun e => (e.1 : Int)
def Dk.new (n : Nat) : Dk := { las := List.replicate n (List.replicate 128 0), cache := [], failed := false }

structure Dk.Ok (D : Dk) : Prop where
  pos : 1 ≤ D.las.length
  le : D.las.length ≤ 8192
  sec : ∀ s ∈ D.las, s.length = 128
  ent : ∀ e ∈ D.cache, e.1 < D.las.length ∧ e.2.length = 128
  dead : D.failed = true → D.cache = []

theorem cached_nil (i : Nat) : cached [] i = none := rfl
theorem cached_snoc (c : List (Nat × List Int)) (e : Nat × List Int) (i : Nat) : cached (c ++ [e]) i = if e.1 = i then some e.2 else cached c i := by
  unfold cached
  rw [List.reverse_append, List.reverse_singleton, List.singleton_append, List.find?_cons]
  by_cases h : e.1 = i
  · simp [h]
  · have : (e.1 == i) = false := by simpa using h
    simp [this, h]
theorem cached_mem {c : List (Nat × List Int)} {i : Nat} {d : List Int} (h : cached c i = some d) : (i, d) ∈ c := by
  unfold cached at h
  cases hf : c.reverse.find? (fun e => e.1 == i) with
  | none => rw [hf] at h; cases h
  | some e =>
    rw [hf] at h
    have hm := List.mem_of_find?_eq_some hf
    have hp := List.find?_some hf
    simp only [Option.map_some, Option.some.injEq] at h
    have h1 : e.1 = i := by simpa using hp
    have : e = (i, d) := by cases e; simp_all
    rw [← this]
    simpa using hm

theorem length_settled (keep : Nat → Bool) : ∀ (c : List (Nat × List Int)) (i : Nat) (las : List (List Int)), (settled keep i c las).length = las.length
  | [], _, _ => rfl
  | e :: r, i, las => by rw [settled, length_settled keep r]; split <;> simp
theorem sec_settled (keep : Nat → Bool) : ∀ (c : List (Nat × List Int)) (i : Nat) (las : List (List Int)), (∀ e ∈ c, e.2.length = 128) → (∀ s ∈ las, s.length = 128) → ∀ s ∈ settled keep i c las, s.length = 128
  | [], _, _, _, h => h
  | e :: r, i, las, hc, h => by
    rw [settled]
    refine sec_settled keep r (i + 1) _ (fun x hx => hc x (List.mem_cons_of_mem _ hx)) ?_
    split
    · intro s hs
      rcases List.mem_or_eq_of_mem_set hs with hs | rfl
      · exact h s hs
      · exact hc e List.mem_cons_self
    · exact h
theorem settled_snoc (keep : Nat → Bool) : ∀ (c : List (Nat × List Int)) (e : Nat × List Int) (i : Nat) (las : List (List Int)),
    settled keep i (c ++ [e]) las = if keep (i + c.length) then (settled keep i c las).set e.1 e.2 else settled keep i c las
  | [], e, i, las => by simp [settled]
  | x :: r, e, i, las => by
    rw [List.cons_append, settled, settled, settled_snoc keep r e (i + 1), List.length_cons, show i + (r.length + 1) = i + 1 + r.length by omega]
theorem settled_none : ∀ (c : List (Nat × List Int)) (i : Nat) (las : List (List Int)), settled (fun _ => false) i c las = las
  | [], _, _ => rfl
  | e :: r, i, las => by rw [settled]; simp [settled_none r]

theorem Dk.Ok.settle {D : Dk} (h : D.Ok) (keep : Nat → Bool) : (D.settle keep).Ok where
  pos := by simp only [Dk.settle, length_settled]; exact h.pos
  le := by simp only [Dk.settle, length_settled]; exact h.le
  sec := sec_settled keep _ _ _ (fun e he => (h.ent e he).2) h.sec
  ent := fun e he => by simp [Dk.settle] at he
  dead := fun _ => rfl
theorem Dk.Ok.fail {D : Dk} (h : D.Ok) : D.fail.Ok := ⟨h.pos, h.le, h.sec, fun e he => by simp [Dk.fail] at he, fun _ => rfl⟩
theorem Dk.Ok.flush {D : Dk} (h : D.Ok) : D.flush.Ok := by unfold Dk.flush; split; exact h; exact h.settle _
theorem Dk.code_zero {D : Dk} {at_ : Int} (h : D.code at_ = 0) : D.failed = false ∧ 0 ≤ at_ ∧ at_ < D.las.length := by
  unfold Dk.code at h
  split at h
  · cases h
  · split at h
    · cases h
    · rename_i h1 h2; exact ⟨by simpa using h1, by omega, by omega⟩
theorem Dk.Ok.write {D : Dk} (h : D.Ok) (at_ : Int) (b : List Int) : (D.write at_ b).Ok := by
  unfold Dk.write
  split
  · rename_i hc
    have hc0 : D.code at_ = 0 ∧ b.length = 128 := by
      unfold Dk.wcode at hc
      split at hc
      · split at hc
        · rename_i a c; exact ⟨a, c⟩
        · cases hc
      · rename_i a; exact absurd hc a
    obtain ⟨hf, h1, h2⟩ := Dk.code_zero hc0.1
    refine ⟨h.pos, h.le, h.sec, fun e he => ?_, fun hd => by simp [hf] at hd⟩
    rcases List.mem_append.1 he with he | he
    · exact h.ent e he
    · obtain rfl : e = (at_.toNat, b) := by simpa using he
      exact ⟨by show at_.toNat < D.las.length; omega, hc0.2⟩
  · exact h
theorem Dk.ok_new {n : Nat} (h1 : 1 ≤ n) (h2 : n ≤ 8192) : (Dk.new n).Ok where
  pos := by simpa [Dk.new] using h1
  le := by simpa [Dk.new] using h2
  sec := fun s hs => by rw [(List.mem_replicate.1 hs).2]; simp
  ent := fun e he => by simp [Dk.new] at he
  dead := fun h => by simp [Dk.new] at h
theorem Dk.Ok.get {D : Dk} (h : D.Ok) {i : Nat} (hi : i < D.las.length) : (D.get i).length = 128 := by
  unfold Dk.get
  cases hc : cached D.cache i with
  | none => simp [hi]; exact h.sec _ (List.getElem_mem hi)
  | some d => simpa using (h.ent _ (cached_mem hc)).2

/-! ### in memory -/
def u8s (l : List Int) : List Value := l.map (Value.int .u8)
@[simp] theorem length_u8s (l : List Int) : (u8s l).length = l.length := by simp [u8s]
theorem u8s_append (a b : List Int) : u8s (a ++ b) = u8s a ++ u8s b := by simp [u8s]
theorem u8s_one (l : List Int) : ∀ v ∈ u8s l, v.oneCell' = true := by
  intro v hv; obtain ⟨n, _, rfl⟩ := List.mem_map.1 hv; rfl
def entCells (e : Nat × List Int) : List Value := .int .i64 e.1 :: u8s e.2
def cacheCells (c : List (Nat × List Int)) : List Value := c.flatMap entCells
def lasCells (las : List (List Int)) : List Value := u8s las.flatten

/-- The map of a disk tells of each sector which write of the cache was its last. -/
def SeenOk (es : Array MapEntry) (c : List (Nat × List Int)) : Prop :=
  ∃ l : List (Nat × Nat), es.toList.map (fun e => (e.key, e.val)) = l.map (fun p => (.int .i64 p.1, .int .i64 p.2)) ∧
    ∀ i : Nat, match l.find? (fun p => p.1 == i) with
      | some p => ∃ d, c[p.2]? = some (i, d) ∧ cached c i = some d
      | none => cached c i = none

/-- A disk's own blocks: its head, its lasting sectors, its map, its cache. -/
def DiskAt (w : World) (b : Nat) (D : Dk) (F : Nat → Prop) : Prop :=
  ∃ (bL bS : Nat) (csl : Value) (es : Array MapEntry) (ck : Nat),
    w.heap[b]? = some (.cells #[.slice (some ⟨bL, 0, none⟩) D.las.length D.las.length, csl, .map (some bS), .bool D.failed] 100 (0, 0)) ∧
    w.heap[bL]? = some (.cells (lasCells D.las).toArray 102 (0, 0)) ∧
    w.heap[bS]? = some (.map es ck) ∧ SeenOk es D.cache ∧
    w.ownsRow 0 142 129 csl D.cache.length (cacheCells D.cache) ∧
    (∀ x, F x ↔ x = b ∨ x = bL ∨ x = bS ∨ csl.ownBlock = some x) ∧ D.Ok

/-- A list of bytes as a slice. -/
def BytesAt (w : World) (v : Value) (l : List Int) : Prop :=
  ∃ a cap, v = .slice a l.length cap ∧ l.length ≤ cap ∧ cap ≤ maxLen ∧ (l ≠ [] → ∃ bb o, a = some ⟨bb, o, none⟩ ∧ w.rangeAt bb o (u8s l))

/-- A list of bytes in a row of its own, from block 'base' on. -/
def OwnB (w : World) (base : Nat) (v : Value) (l : List Int) : Prop := w.ownsRow base 5 1 v l.length (u8s l)

theorem DiskAt.lt {w : World} {b : Nat} {D : Dk} {F : Nat → Prop} (h : DiskAt w b D F) : ∀ x, F x → x < w.heap.size := by
  obtain ⟨bL, bS, csl, es, ck, h1, h2, h3, _, h5, hF, _⟩ := h
  intro x hx
  rcases (hF x).1 hx with rfl | rfl | rfl | hc
  · exact lt_of_heap h1
  · exact lt_of_heap h2
  · exact lt_of_heap h3
  · exact (h5.lt x hc).2
theorem DiskAt.ok {w : World} {b : Nat} {D : Dk} {F : Nat → Prop} (h : DiskAt w b D F) : D.Ok := by
  obtain ⟨_, _, _, _, _, _, _, _, _, _, _, ok⟩ := h; exact ok
theorem DiskAt.mem {w : World} {b : Nat} {D : Dk} {F : Nat → Prop} (h : DiskAt w b D F) : F b := by
  obtain ⟨_, _, _, _, _, _, _, _, _, _, hF, _⟩ := h; exact (hF b).2 (.inl rfl)
theorem ownsRow_keep {w w' : World} {base e size n : Nat} {v : Value} {xs : List Value} {G : Nat → Prop} (h : w.ownsRow base e size v n xs) (hk : Keep G w w') (hG : ∀ x, v.ownBlock = some x → ¬ G x) : w'.ownsRow base e size v n xs := by
  obtain ⟨h1, h2⟩ := h
  refine ⟨h1, ?_⟩
  rcases h2 with h2 | ⟨g, cap, cur, hv, hg, hh, r⟩
  · exact .inl h2
  · exact .inr ⟨g, cap, cur, hv, hg, hk.at hh (hG g (by rw [hv]; rfl)), r⟩
theorem DiskAt.keep {w w' : World} {b : Nat} {D : Dk} {F G : Nat → Prop} (h : DiskAt w b D F) (hk : Keep G w w') (hG : ∀ x, F x → ¬ G x) : DiskAt w' b D F := by
  obtain ⟨bL, bS, csl, es, ck, h1, h2, h3, h4, h5, hF, ok⟩ := h
  exact ⟨bL, bS, csl, es, ck, hk.at h1 (hG _ ((hF _).2 (.inl rfl))), hk.at h2 (hG _ ((hF _).2 (.inr (.inl rfl)))), hk.at h3 (hG _ ((hF _).2 (.inr (.inr (.inl rfl))))), h4,
    ownsRow_keep h5 hk (fun x hx => hG x ((hF x).2 (.inr (.inr (.inr hx))))), hF, ok⟩
theorem BytesAt.keep {w w' : World} {v : Value} {l : List Int} {G : Nat → Prop} (h : BytesAt w v l) (hk : Keep G w w') (hG : ∀ a n c, v = .slice (some a) n c → ¬ G a.block) : BytesAt w' v l := by
  obtain ⟨a, cap, hv, h1, h2, h3⟩ := h
  refine ⟨a, cap, hv, h1, h2, fun hl => ?_⟩
  obtain ⟨bb, o, ha, hr⟩ := h3 hl
  refine ⟨bb, o, ha, fun j u hu => ?_⟩
  have hc := hr j u hu
  have hb := World.block_lt_of_cell? w _ hc
  rw [World.cell?_of_block (w := w) (hk.block bb hb (by subst ha; exact hG _ _ _ hv))]
  exact hc
theorem OwnB.bytes {w : World} {base : Nat} {v : Value} {l : List Int} (h : OwnB w base v l) : BytesAt w v l := by
  obtain ⟨h1, h2⟩ := h
  rcases h2 with ⟨rfl, hn⟩ | ⟨g, cap, cur, hv, hg, hh, hc, hm, hs, ht⟩
  · have : l = [] := List.length_eq_zero_iff.1 hn
    subst this
    exact ⟨none, 0, rfl, Nat.le_refl _, by simp [maxLen], fun h => absurd rfl h⟩
  · refine ⟨_, cap, hv, hc, hm, fun _ => ⟨g, 0, rfl, ?_⟩⟩
    refine range_at hh 0 _ ?_
    rw [List.drop_zero]
    simpa using ht
end Go.Proofs.Ytghnbbpoaeheaaa

/- The map of a disk (sector to number of its last write): looked up, written, cleared. -/
namespace Go.Proofs.Ytghnbbpoaeheaaa
open Go.RowKit

abbrev kv (e : MapEntry) : Value × Value := (e.key, e.val)
abbrev kvOf (p : Nat × Nat) : Value × Value := (.int .i64 p.1, .int .i64 p.2)

theorem findNow_none (i : Nat) : ∀ (l : List (Nat × Nat)) (es : List MapEntry) (j : Nat), es.map kv = l.map kvOf → l.find? (fun p => p.1 == i) = none →
    Instr.findNow (.int .i64) (.int .i64 i) es j = some none
  | [], [], _, _, _ => rfl
  | [], e :: es, _, h, _ => by simp at h
  | p :: l, [], _, h, _ => by simp at h
  | p :: l, e :: es, j, h, hn => by
    simp only [List.map_cons, List.cons.injEq, Prod.mk.injEq] at h
    obtain ⟨⟨h1, h2⟩, h3⟩ := h
    rw [List.find?_cons] at hn
    split at hn
    · cases hn
    · rename_i hp
      have hne : ((i : Int) == (p.1 : Int)) = false := by
        have : p.1 ≠ i := by simpa using hp
        rw [beq_eq_false_iff_ne]; omega
      simp only [Instr.findNow, h1, Instr.sameNow, ↓reduceIte, hne]
      exact findNow_none i l es (j + 1) h3 hn
theorem findNow_some (i : Nat) (q : Nat × Nat) : ∀ (l : List (Nat × Nat)) (es : List MapEntry) (j : Nat), es.map kv = l.map kvOf → l.find? (fun p => p.1 == i) = some q →
    ∃ l1 l2, l = l1 ++ q :: l2 ∧ q.1 = i ∧ (∀ p ∈ l1, p.1 ≠ i) ∧ Instr.findNow (.int .i64) (.int .i64 i) es j = some (some (j + l1.length, .int .i64 q.2))
  | [], _, _, _, hf => by simp at hf
  | p :: l, [], _, h, _ => by simp at h
  | p :: l, e :: es, j, h, hf => by
    simp only [List.map_cons, List.cons.injEq, Prod.mk.injEq] at h
    obtain ⟨⟨h1, h2⟩, h3⟩ := h
    rw [List.find?_cons] at hf
    split at hf
    · rename_i hp
      obtain rfl : p = q := by simpa using hf
      have hp' : p.1 = i := by simpa using hp
      refine ⟨[], l, rfl, hp', by simp, ?_⟩
      have he : ((i : Int) == (p.1 : Int)) = true := by rw [hp']; simp
      simp only [Instr.findNow, h1, Instr.sameNow, ↓reduceIte, he, h2]
      rfl
    · rename_i hp
      have hp' : p.1 ≠ i := by simpa using hp
      obtain ⟨l1, l2, rfl, hq, hl1, hrun⟩ := findNow_some i q l es (j + 1) h3 hf
      refine ⟨p :: l1, l2, rfl, hq, fun x hx => ?_, ?_⟩
      · rcases List.mem_cons.1 hx with rfl | hx
        · exact hp'
        · exact hl1 x hx
      · have he : ((i : Int) == (p.1 : Int)) = false := by rw [beq_eq_false_iff_ne]; omega
        simp only [Instr.findNow, h1, Instr.sameNow, ↓reduceIte, he, hrun, List.length_cons]
        rw [show j + 1 + l1.length = j + (l1.length + 1) by omega]

theorem run_getObj (w : World) (b : Nat) (es : Array MapEntry) (ck : Nat) (h : w.heap[b]? = some (.map es ck)) : (getObj b).run Try.prog w = .ok (.map es ck) w := by
  simp [getObj, Sem.run, h]
theorem under98 (w : World) : (underlying 98).run Try.prog w = .ok (.map 3 3) w := by kernel_rfl
theorem under3 (w : World) : (underlying 3).run Try.prog w = .ok (.int .i64) w := by kernel_rfl
theorem zero3 (w : World) : (zeroValue 3).run Try.prog w = .ok (.int .i64 0) w := by kernel_rfl

theorem check3 (e : Bool) (i : Int) (w : World) : (Instr.checkKey e 10000 3 (.int .i64 i)).run Try.prog w = .ok () w := by kernel_rfl

/-- 'k, is := seen[at]'. -/
theorem run_lookup_seen (w : World) (b i : Nat) (es : Array MapEntry) (ck : Nat) (h : w.heap[b]? = some (.map es ck)) (l : List (Nat × Nat)) (hl : es.toList.map kv = l.map kvOf) :
    (Instr.lookup 98 (.map (some b)) (.int .i64 i) true).run Try.prog w = .ok (match l.find? (fun p => p.1 == i) with
      | some p => .tuple #[.int .i64 p.2, .bool true]
      | none => .tuple #[.int .i64 0, .bool false]) w := by
  unfold Instr.lookup
  simp only [Sem.run_bind, under98, Result.andThen_ok, run_getObj w b es ck h, Sem.run_pure, check3, under3, Instr.findKey]
  cases hf : l.find? (fun p => p.1 == i) with
  | none =>
    rw [findNow_none i l es.toList 0 hl hf]
    simp [zero3]
  | some p =>
    obtain ⟨l1, l2, _, _, _, hrun⟩ := findNow_some i p l es.toList 0 hl hf
    rw [hrun]
    simp

/-- 'seen[at] = v'. -/
theorem run_update_seen (w : World) (b i v : Nat) (es : Array MapEntry) (ck : Nat) (h : w.heap[b]? = some (.map es ck)) (l : List (Nat × Nat)) (hl : es.toList.map kv = l.map kvOf) :
    ∃ (es' : Array MapEntry) (ck' : Nat) (l' : List (Nat × Nat)), (Instr.mapUpdate 98 (.map (some b)) (.int .i64 i) (.int .i64 v)).run Try.prog w = .ok () { w with heap := w.heap.setIfInBounds b (.map es' ck') } ∧
      es'.toList.map kv = l'.map kvOf ∧ (∀ k, l'.find? (fun p => p.1 == k) = if i = k then some (i, v) else l.find? (fun p => p.1 == k)) := by
  unfold Instr.mapUpdate
  simp only [Sem.run_bind, under98, Result.andThen_ok, run_getObj w b es ck h, Sem.run_pure, check3, under3, Instr.findKey]
  cases hf : l.find? (fun p => p.1 == i) with
  | none =>
    rw [findNow_none i l es.toList 0 hl hf]
    refine ⟨es.push { key := .int .i64 i, val := .int .i64 v, born := ck }, ck + 1, l ++ [(i, v)], ?_, ?_, ?_⟩
    · simp [setObj, Sem.run, h]
    · simp [hl]
    · intro k
      rw [List.find?_append]
      by_cases hk : i = k
      · subst hk; rw [if_pos rfl, hf]; simp
      · rw [if_neg hk]
        have : (i == k) = false := by simpa using hk
        simp [this]
  | some q =>
    obtain ⟨l1, l2, rfl, hq, hl1, hrun⟩ := findNow_some i q l es.toList 0 hl hf
    rw [Nat.zero_add] at hrun
    rw [hrun]
    have hlen : es.toList.length = (l1 ++ q :: l2).length := by simpa using congrArg List.length hl
    have hlt : l1.length < es.size := by simp at hlen; omega
    have hkey : es[l1.length].key = .int .i64 i := by
      have := congrArg (fun l => l[l1.length]?) hl
      simp only [List.getElem?_map, List.getElem?_append_right (Nat.le_refl l1.length), Nat.sub_self, List.getElem?_cons_zero, Option.map_some, Array.getElem?_toList, Array.getElem?_eq_getElem hlt, Option.some.injEq, Prod.mk.injEq] at this
      rw [this.1, hq]
    refine ⟨es.modify l1.length fun e => { e with key := .int .i64 i, val := .int .i64 v }, ck, l1 ++ (i, v) :: l2, ?_, ?_, ?_⟩
    · have hsame : (Instr.keyThatStays (((es[l1.length]?).map (·.key)).getD (.int .i64 i)) (.int .i64 i)).run Try.prog w = .ok (.int .i64 i) w := by
        rw [Array.getElem?_eq_getElem hlt, Option.map_some, Option.getD_some, hkey]
        simp [Instr.keyThatStays, Instr.sameBits]
      simp [hsame, setObj, Sem.run, h]
    · apply List.ext_getElem?
      intro k
      have hk := congrArg (fun l => l[k]?) hl
      simp only [List.getElem?_map, Array.getElem?_toList, Array.getElem?_modify] at hk ⊢
      by_cases e : l1.length = k
      · subst e
        simp [hlt]
      · rw [if_neg e, hk]
        congr 1
        rw [List.getElem?_append, List.getElem?_append]
        split
        · rfl
        · rw [show k - l1.length = (k - l1.length - 1) + 1 by omega, List.getElem?_cons_succ, List.getElem?_cons_succ]
    · intro k
      have hno : ∀ k', k' = i → l1.find? (fun p => p.1 == k') = none := by
        intro k' e; subst e
        rw [List.find?_eq_none]; intro x hx; simpa using hl1 x hx
      rw [List.find?_append, List.find?_append]
      by_cases hk : i = k
      · rw [if_pos hk, hno k hk.symm]
        simp [hk]
      · rw [if_neg hk, List.find?_cons, List.find?_cons]
        have h1 : ((i, v).1 == k) = false := by simpa using hk
        have h2 : (q.1 == k) = false := by rw [hq]; simpa using hk
        rw [h1, h2]

theorem SeenOk.nil : SeenOk #[] [] := ⟨[], rfl, fun i => by simp [cached_nil]⟩
theorem SeenOk.update {es es' : Array MapEntry} {c : List (Nat × List Int)} {l l' : List (Nat × Nat)} {i : Nat} {d : List Int}
    (hl : ∀ k : Nat, match l.find? (fun p => p.1 == k) with
      | some p => ∃ d, c[p.2]? = some (k, d) ∧ cached c k = some d
      | none => cached c k = none) (hl' : es'.toList.map kv = l'.map kvOf)
    (hf : ∀ k, l'.find? (fun p => p.1 == k) = if i = k then some (i, c.length) else l.find? (fun p => p.1 == k)) : SeenOk es' (c ++ [(i, d)]) := by
  refine ⟨l', hl', fun k => ?_⟩
  rw [hf k]
  by_cases hk : i = k
  · subst hk
    rw [if_pos rfl]
    exact ⟨d, by simp, by rw [cached_snoc, if_pos rfl]⟩
  · rw [if_neg hk]
    have hc := hl k
    cases hp : l.find? (fun p => p.1 == k) with
    | some p =>
      rw [hp] at hc
      obtain ⟨d', h1, h2⟩ := hc
      have hlt := (List.getElem?_eq_some_iff.1 h1).1
      exact ⟨d', by rw [List.getElem?_append_left hlt]; exact h1, by rw [cached_snoc, if_neg hk]; exact h2⟩
    | none =>
      rw [hp] at hc
      show cached (c ++ [(i, d)]) k = none
      rw [cached_snoc, if_neg hk]; exact hc
/-- 'clear(seen)'. -/
theorem run_clear_seen (w : World) (b : Nat) (es : Array MapEntry) (ck : Nat) (ty : TypeId) (h : w.heap[b]? = some (.map es ck)) :
    (Builtin.clear_ #[98] ty #[.map (some b)]).run Try.prog w = .ok (.tuple #[]) { w with heap := w.heap.setIfInBounds b (.map #[] ck) } := by
  unfold Builtin.clear_
  simp [Sem.run_bind, Result.andThen_ok, getObj, setObj, Sem.run, h]
end Go.Proofs.Ytghnbbpoaeheaaa

/- The laws of single operations, at this program's types. -/
namespace Go.Proofs.Ytghnbbpoaeheaaa
open Go.RowKit

noncomputable def Zof (t : TypeId) : Array Value := (((Try.prog.info? t).bind (·.zero)).map (·.cells)).getD #[]
theorem size102 : (Try.prog.info? 102).map (·.size) = some 128 := by kernel_rfl
theorem size142 : (Try.prog.info? 142).map (·.size) = some 129 := by kernel_rfl
theorem zofs102 : (Zof 102).size = 128 := by kernel_rfl
theorem zofs142 : (Zof 142).size = 129 := by kernel_rfl
theorem zof102 : Zof 102 = Array.replicate 128 (.int .u8 0) := by kernel_rfl

section
variable {P : Program} {ops : Array Oper} {rest : List Oper} {o : Oper} {a : Act} {w : World} {Q : Exit → Act → World → Prop}

theorem wpList_alloc_Z (hgd : o.guard = none) (ty : TypeId) (ho : o.op = .alloc ty) (z : Value) (Z : Array Value) (hz : (zeroValue ty).run P w = .ok z w) (hZ : z.cells = Z)
    (h : wpList P ops Q rest (a.put o.dst (.pointer (some ⟨w.heap.size, 0, none⟩))) (w.alloc (.cells Z ty))) : wpList P ops Q (o :: rest) a w := by
  refine wpList_plain hgd fun K hK => ?_
  unfold Oper.wp
  have e : (newVar ty z).run P w = .ok ⟨w.heap.size, 0, none⟩ (w.alloc (.cells Z ty)) := by
    subst hZ; rfl
  simp only [execOp, ho, Instr.alloc, Sem.run_bind, hz, Result.andThen_ok, e, Sem.run_pure]
  exact hK _ _ h
theorem wpList_box_agg (hgd : o.guard = none) (ty : TypeId) (x : Operand) (ho : o.op = .box ty x) (v : Value) (hx : a.eval x = v)
    (h : wpList P ops Q rest (a.put o.dst (.pointer (some ⟨w.heap.size, 0, none⟩))) (w.alloc (.cells v.cells ty))) : wpList P ops Q (o :: rest) a w := by
  refine wpList_plain hgd fun K hK => ?_
  unfold Oper.wp
  have e : (newVar ty v).run P w = .ok ⟨w.heap.size, 0, none⟩ (w.alloc (.cells v.cells ty)) := rfl
  simp only [execOp, ho, hx, Instr.box, Sem.run_bind, Result.andThen_ok, e, Sem.run_pure]
  exact hK _ _ h

theorem alloc_setRow (w : World) (Z C : Array Value) (t : TypeId) : (w.alloc (.cells Z t)).setRow w.heap.size C = w.alloc (.cells C t) := by
  have e : ∀ f : Obj → Obj, f (.cells Z t) = .cells C t → (w.alloc (.cells Z t)).heap.modify w.heap.size f = (w.alloc (.cells C t)).heap := fun f hf => by
    show (w.heap.push (.cells Z t)).modify w.heap.size _ = w.heap.push (.cells C t)
    apply Array.ext_getElem?
    intro i
    rw [Array.getElem?_modify, Array.getElem?_push, Array.getElem?_push]
    split
    · rename_i e; subst e; simp [hf]
    · rename_i e; rw [if_neg (fun h => e h.symm), if_neg (fun h => e h.symm)]
  unfold World.setRow
  rw [e _ rfl]
  rfl

/-- A whole row stored into the variable that was made last. -/
theorem wpList_store_new (hgd : o.guard = none) (ty : TypeId) (x y : Operand) (ho : o.op = .store ty x y) (Z cells : Array Value) (t : TypeId)
    (hx : a.eval x = .pointer (some ⟨w.heap.size, 0, none⟩)) (hy : a.eval y = .agg cells) (hi : (P.info? ty).map (·.size) = some cells.size) (hZ : Z.size = cells.size)
    (h1 : cells.all (·.oneCell') = true) (h : wpList P ops Q rest (a.put o.dst undef) (w.alloc (.cells cells t))) : wpList P ops Q (o :: rest) a (w.alloc (.cells Z t)) := by
  refine wpList_store_row hgd ty x y ho w.heap.size cells hx hy t Z (heap_alloc_new w _) hi hZ h1 ?_
  rw [alloc_setRow]; exact h
end

theorem i5 : (Try.prog.info? 5).map (fun i => (i.zero, i.size, i.bytes)) = some (some (.int .u8 0), 1, 1) := by kernel_rfl
theorem i3 : (Try.prog.info? 3).map (fun i => (i.zero, i.size, i.bytes)) = some (some (.int .i64 0), 1, 8) := by kernel_rfl
theorem i142 : (Try.prog.info? 142).map (fun i => (i.zero.map (·.cells), i.size, i.bytes)) = some (some (Zof 142), 129, 136) := by kernel_rfl
theorem info_of {P : Program} {t : TypeId} {α : Type} {f : TypeInfo → α} {x : α} (h : (P.info? t).map f = some x) : ∃ i, P.info? t = some i ∧ f i = x := by
  cases hq : P.info? t with
  | none => rw [hq] at h; cases h
  | some i => rw [hq] at h; exact ⟨i, rfl, by simpa using h⟩

section
variable {ops : Array Oper} {rest : List Oper} {o : Oper} {a : Act} {w : World} {Q : Exit → Act → World → Prop}
/-- 'append' onto a row of bytes of the call's own. -/
theorem wpList_app22 (hgd : o.guard = none) (s x : Operand) (ho : o.op = .call { callee := .builtin .append, args := #[s, x], argTypes := #[22, 22] })
    (base : Nat) (v : Value) (n : Nat) (xs : List Value) (hs : a.eval s = v) (hown : w.ownsRow base 5 1 v n xs)
    (ad : Addr) (m c : Nat) (news : List Value) (hx : a.eval x = .slice (some ad) m c) (hl : news.length = m) (hnews : ∀ j u, news[j]? = some u → w.cell? (ad.add j) = some u) (h1 : ∀ u ∈ news, u.oneCell' = true)
    (hb : n + m ≤ 1073741824) (hbase : base ≤ w.heap.size)
    (h : ∀ v' w', w'.ownsRow base 5 1 v' (n + m) (xs ++ news) → w.grownBy w' v.ownBlock → (v' = .slice none 0 0 ↔ v = .slice none 0 0 ∧ m = 0) → wpList Try.prog ops Q rest (a.put o.dst v') w') : wpList Try.prog ops Q (o :: rest) a w := by
  obtain ⟨i, hi, he⟩ := info_of i5
  simp only [Prod.mk.injEq] at he
  exact wpList_append_own w hgd s x 22 ho base 5 i (.int .u8 0) 1 1 Try.underlying22 hi he.1 he.2.1 he.2.2 rfl (by decide) v n xs hs hown ad m c news hx (by omega) hnews h1 (by unfold maxLen; omega) (by omega) hbase h
theorem wpList_app76 (hgd : o.guard = none) (s x : Operand) (ho : o.op = .call { callee := .builtin .append, args := #[s, x], argTypes := #[76, 76] })
    (base : Nat) (v : Value) (n : Nat) (xs : List Value) (hs : a.eval s = v) (hown : w.ownsRow base 3 1 v n xs)
    (ad : Addr) (m c : Nat) (news : List Value) (hx : a.eval x = .slice (some ad) m c) (hl : news.length = m) (hnews : ∀ j u, news[j]? = some u → w.cell? (ad.add j) = some u) (h1 : ∀ u ∈ news, u.oneCell' = true)
    (hb : n + m ≤ 1073741824) (hbase : base ≤ w.heap.size)
    (h : ∀ v' w', w'.ownsRow base 3 1 v' (n + m) (xs ++ news) → w.grownBy w' v.ownBlock → (v' = .slice none 0 0 ↔ v = .slice none 0 0 ∧ m = 0) → wpList Try.prog ops Q rest (a.put o.dst v') w') : wpList Try.prog ops Q (o :: rest) a w := by
  obtain ⟨i, hi, he⟩ := info_of i3
  simp only [Prod.mk.injEq] at he
  exact wpList_append_own w hgd s x 76 ho base 3 i (.int .i64 0) 1 8 Try.underlying76 hi he.1 he.2.1 he.2.2 rfl (by decide) v n xs hs hown ad m c news hx (by omega) hnews h1 (by unfold maxLen; omega) (by omega) hbase h
end

/-- The call returns a value of which Q holds, in a world of which Q holds. -/
def Gives (Q : Value → World → Prop) (e : Ending) (w' : World) : Prop := ∃ v, e = .returned v ∧ Q v w'
def NoF : Nat → Prop := fun _ => False

/-- A fresh list of bytes; nothing that was there has turned. -/
def FreshB (w : World) (xs : List Int) (v : Value) (w' : World) : Prop := OwnB w' w.heap.size v xs ∧ Keep NoF w w'

theorem clone_any (bb o cap : Nat) (xs : List Int) (w : World) (hn : 0 < xs.length) (hlen : xs.length ≤ 1073741824) (hr : w.rangeAt bb o (u8s xs)) :
    Calls Try.prog 83 #[.slice (some ⟨bb, o, none⟩) xs.length cap] w (Gives (FreshB w xs)) := by
  have hq := fun (w : World) (a : Option Addr) (n c : Nat) => Lib.run_eql_slice_nil (P := Try.prog) w 22 5 a n c 0 0 Try.underlying22
  have h0 : (w.alloc (.cells #[] 5)).ownsRow w.heap.size 5 1 (.slice (some ⟨w.heap.size, 0, none⟩) 0 0) 0 [] := World.ownsRow_made (base := w.heap.size) (e := 5) (size := 1) w #[] 0 (Nat.le_refl _) (by simp [maxLen]) rfl
  have HL := Lib.hid hlen
  clear hlen
  go_enter Try.func83, Try.ntmps83
  go_wp2_with (at_builtin; go_must (refine wpList_app22 rfl _ _ rfl w.heap.size _ 0 [] rfl h0 ⟨bb, o, none⟩ xs.length cap (u8s xs) rfl ?c1 ?c2 ?c3 ?c4 ?c5 ?_))
  case c1 => simp
  case c2 => intro j u hu; rw [Addr.add_mid]; exact World.rangeAt_alloc hr _ j u hu
  case c3 => exact u8s_one xs
  case c4 => have := HL.out; omega
  case c5 => simp
  intro v' w' hown hg _
  go_wp2
  go_ret
  exact ⟨_, rfl, hown, (Keep.alloc _ _ _).trans (Keep.grown (F := (· = w.heap.size)) hg (by intro k hk; simpa [Value.ownBlock] using hk.symm)) (by intro x hx e; have e1 : x = w.heap.size := e; omega)⟩
end Go.Proofs.Ytghnbbpoaeheaaa

/- The disk's functions, walked: may, Sectors, Failed, Read. -/
namespace Go.Proofs.Ytghnbbpoaeheaaa
open Go.RowKit

/-- The four cells of a disk's head. -/
theorem DiskAt.head {w : World} {b : Nat} {D : Dk} {F : Nat → Prop} (h : DiskAt w b D F) :
    ∃ (bL bS : Nat) (csl : Value), w.cell? ⟨b, 0, none⟩ = some (.slice (some ⟨bL, 0, none⟩) D.las.length D.las.length) ∧ w.cell? ⟨b, 1, none⟩ = some csl ∧
      w.cell? ⟨b, 2, none⟩ = some (.map (some bS)) ∧ w.cell? ⟨b, 3, none⟩ = some (.bool D.failed) := by
  obtain ⟨bL, bS, csl, es, ck, h1, _⟩ := h
  exact ⟨bL, bS, csl, cell_at h1 0 rfl, cell_at h1 1 rfl, cell_at h1 2 rfl, cell_at h1 3 rfl⟩

theorem may_any {w : World} {b : Nat} {D : Dk} {F : Nat → Prop} (h : DiskAt w b D F) (at_ : Int) :
    Calls Try.prog 82 #[.pointer (some ⟨b, 0, none⟩), .int .i64 at_] w fun e w' => e = .returned (.int .u16 (D.code at_)) ∧ w = w' := by
  obtain ⟨bL, bS, csl, h0, _, _, h3⟩ := h.head
  generalize hn : D.las.length = n at h0
  unfold Dk.code
  rw [hn]
  clear h hn
  cases hf : D.failed <;> rw [hf] at h3 <;> clear hf
  · by_cases h1 : at_ < 0
    · rw [if_neg (by simp), if_pos (.inl h1)]
      go_enter Try.func82, Try.ntmps82
      go_wp2
      go_ret
      exact ⟨rfl, rfl⟩
    · by_cases h2 : at_ < n
      · rw [if_neg (by simp), if_neg (by omega)]
        go_enter Try.func82, Try.ntmps82
        go_wp2
        go_ret
        exact ⟨rfl, rfl⟩
      · rw [if_neg (by simp), if_pos (by omega)]
        go_enter Try.func82, Try.ntmps82
        go_wp2
        go_ret
        exact ⟨rfl, rfl⟩
  · rw [if_pos rfl]
    go_enter Try.func82, Try.ntmps82
    go_wp2
    go_ret
    exact ⟨rfl, rfl⟩

theorem sectors_any {w : World} {b : Nat} {D : Dk} {F : Nat → Prop} (h : DiskAt w b D F) :
    Calls Try.prog 65 #[.pointer (some ⟨b, 0, none⟩)] w fun e w' => e = .returned (.int .i64 D.las.length) ∧ w = w' := by
  obtain ⟨bL, bS, csl, h0, _, _, h3⟩ := h.head
  clear h
  go_enter Try.func65, Try.ntmps65
  go_wp2
  go_ret
  exact ⟨rfl, rfl⟩
theorem failed_any {w : World} {b : Nat} {D : Dk} {F : Nat → Prop} (h : DiskAt w b D F) :
    Calls Try.prog 67 #[.pointer (some ⟨b, 0, none⟩)] w fun e w' => e = .returned (.bool D.failed) ∧ w = w' := by
  obtain ⟨bL, bS, csl, h0, _, _, h3⟩ := h.head
  clear h
  go_enter Try.func67, Try.ntmps67
  go_wp2
  go_ret
  exact ⟨rfl, rfl⟩

/-! ### rows of equal length -/
theorem drop_flatMap {α β : Type} (f : α → List β) (n : Nat) : ∀ (l : List α) (k : Nat), (∀ x ∈ l, (f x).length = n) → (l.flatMap f).drop (k * n) = (l.drop k).flatMap f
  | [], k, _ => by simp
  | x :: r, 0, _ => by simp
  | x :: r, k + 1, h => by
    rw [List.flatMap_cons, List.drop_append, h x List.mem_cons_self, List.drop_eq_nil_of_le (by rw [h x List.mem_cons_self, Nat.succ_mul]; omega), List.nil_append, List.drop_succ_cons,
      show (k + 1) * n - n = k * n by rw [Nat.succ_mul]; omega]
    exact drop_flatMap f n r k fun y hy => h y (List.mem_cons_of_mem _ hy)
theorem row_flatMap {α β : Type} (f : α → List β) (n : Nat) (l : List α) (k : Nat) (x : α) (h : ∀ x ∈ l, (f x).length = n) (hx : l[k]? = some x) (tl : List β) : ((l.flatMap f ++ tl).drop (k * n)).take n = f x := by
  have hk : k < l.length := (List.getElem?_eq_some_iff.1 hx).1
  have hlen : ∀ (l : List α), (∀ x ∈ l, (f x).length = n) → (l.flatMap f).length = l.length * n := by
    intro l
    induction l with
    | nil => intro _; simp
    | cons y r ih => intro h; rw [List.flatMap_cons, List.length_append, h y List.mem_cons_self, ih (fun z hz => h z (List.mem_cons_of_mem _ hz)), List.length_cons, Nat.succ_mul]; omega
  have h2 : l.drop k = x :: l.drop (k + 1) := by
    rw [List.drop_eq_getElem_cons hk]
    congr 1
    have := List.getElem?_eq_getElem hk
    rw [hx] at this; exact (Option.some.inj this).symm
  have hle : k * n ≤ (l.flatMap f).length := by rw [hlen l h]; exact Nat.mul_le_mul_right n (Nat.le_of_lt hk)
  rw [List.drop_append_of_le_length hle, drop_flatMap f n l k h, h2, List.flatMap_cons, List.append_assoc]
  have hx' : (f x).length = n := h x (List.mem_of_getElem? hx)
  rw [← hx', List.take_left]

theorem lasCells_eq (las : List (List Int)) : lasCells las = las.flatMap u8s := by
  unfold lasCells u8s
  induction las with
  | nil => rfl
  | cons s r ih => rw [List.flatten_cons, List.map_append, ih, List.flatMap_cons]

theorem DiskAt.sector {w : World} {b : Nat} {D : Dk} {F : Nat → Prop} (h : DiskAt w b D F) {bL : Nat} {k : Nat} {s : List Int} {n c : Nat} (h0 : w.cell? ⟨b, 0, none⟩ = some (.slice (some ⟨bL, 0, none⟩) n c)) (hs : D.las[k]? = some s) :
    w.rangeAt bL (k * 128) (u8s s) := by
  obtain ⟨bL', bS, csl, es, ck, h1, h2, _, _, _, _, ok⟩ := h
  have := cell_at h1 0 rfl
  rw [this] at h0
  obtain rfl : bL' = bL := by simp at h0; exact h0.1
  refine range_at h2 _ _ ?_
  rw [List.toList_toArray, lasCells_eq, length_u8s, ok.sec s (List.mem_of_getElem? hs)]
  have := row_flatMap u8s 128 D.las k s (fun x hx => by rw [length_u8s]; exact ok.sec x hx) hs []
  rwa [List.append_nil] at this
end Go.Proofs.Ytghnbbpoaeheaaa
