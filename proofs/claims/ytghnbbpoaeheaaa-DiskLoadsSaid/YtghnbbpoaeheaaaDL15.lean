/- BayCuts: one bay of one slot in memory, a cut at rows of keeps that the call lays, a sector of an image. -/
import Derived.Test.YtghnbbpoaeheaaaDL11
import Derived.Test.YtghnbbpoaeheaaaDL12
import Derived.Test.YtghnbbpoaeheaaaDL14
import Derived.Deep.Upon
namespace Go.Proofs.Ytghnbbpoaeheaaa
open Go.RowKit

/-- A cut at a row of keeps that the call itself has laid. -/
theorem Sole.cutRow {W w : World} {b : Nat} {B : By} {L : List (Value × List Int)} (h : Sole W b B L w) (hs : B.Small 1000000) {kl : List (Value × List Bool)} (hkl : ∀ q ∈ kl, BoolsAt W q.1 q.2) (hf : kl.length ≤ far) {cs : Array Value} (hcs : cs = (kl.map (·.1)).toArray) {n : Nat} (hn : n = kl.length) :
    Calls Try.prog 33 #[.pointer (some ⟨b, 0, none⟩), .slice (some ⟨w.heap.size, 0, none⟩) n n] (w.alloc (.cells cs 57)) (Gives fun v w' => v = .tuple #[] ∧ Sole W b (B.cutg kl) L w') := by
  subst hcs hn
  have hW : Keep (Old W) W (w.alloc (.cells (kl.map (·.1)).toArray 57)) := (Many.old h).ofNoF (Keep.alloc _ _ _)
  have h2 : Many W (w.alloc (.cells (kl.map (·.1)).toArray 57)) 1 (fun _ => b) (fun _ => B) L := Many.quiet h (Keep.alloc _ _ _)
  obtain ⟨F, hb, hF, hst⟩ := Many.step h2 0 (by omega)
  refine Gives.imp (cutg_core hb (kc := kl.length) (kl := kl) hf (fun wr F1 hk1 hF1 i hi => ?_) hs) fun v w' hg => ⟨hg.1, (hst _ _ hg.2).1.one⟩
  have hnew := heap_alloc_new w (.cells (kl.map (·.1)).toArray 57)
  have hrow := hk1.at hnew (hb.apart_of_type hnew (by decide))
  obtain ⟨⟨v, l⟩, hq⟩ : ∃ q, kl[i]? = some q := ⟨_, List.getElem?_eq_getElem hi⟩
  have e : keepsFor kl i = l := by unfold keepsFor; rw [hq]
  have hk := hkl _ (List.mem_of_getElem? hq)
  rw [e]
  obtain ⟨a, c, hv, -, h3⟩ := id hk
  simp only at hv h3 hk
  subst hv
  refine ⟨w.heap.size, 0, a, c, rfl, cell_at hrow (0 + i) (by simp [hq]), hk.old (hW.trans' (hk1.mono fun x _ hx => hF x hx)), fun a' n c' he hne hf => ?_⟩
  obtain ⟨b2, o2, rfl, hr2⟩ := h3 hne
  simp only [Value.slice.injEq] at he
  obtain ⟨y, hy⟩ := List.exists_mem_of_ne_nil _ hne
  obtain ⟨j, hj, rfl⟩ := List.mem_iff_getElem.1 hy
  have hlt := World.block_lt_of_cell? W ⟨b2, o2 + j, none⟩ (hr2 j (.bool l[j]) (by simp [hj]))
  have e1 : a' = ⟨b2, o2, none⟩ := (Option.some.inj he.1).symm
  subst e1
  have hsz := hW.size
  rcases hF1 _ hf with hx | hx
  · have := hF _ hx; simp only at this hlt; omega
  · simp only at hx hlt; omega

theorem oneAt {w : World} {g : Nat} {x : Int} (h : w.heap[g]? = some (.cells #[.int .i64 x] 3 (0, 0))) : IntsAt w (.slice (some ⟨g, 0, none⟩) 1 1) [x] :=
  ⟨_, _, rfl, by simp [maxLen], fun _ => ⟨g, 0, rfl, range_at h 0 _ rfl⟩⟩
theorem new_one {W w : World} (h : Many W w 0 (fun _ => 0) (fun _ => B0) []) (x : Int) :
    Calls Try.prog 24 #[.slice (some ⟨w.heap.size, 0, none⟩) 1 1] (w.alloc (.cells #[.int .i64 x] 3)) (Gives fun r w' =>
      (sizeOk x ∧ ∃ b, r = .tuple #[.pointer (some ⟨b, 0, none⟩), .int .u16 0] ∧ Sole W b (By.fresh [x] 1) [] w') ∨
      (¬ sizeOk x ∧ r = .tuple #[.pointer none, .int .u16 40] ∧ Many W w' 0 (fun _ => 0) (fun _ => B0) [])) :=
  Gives.imp ((h.quiet (Keep.alloc NoF w (.cells #[.int .i64 x] 3))).new (oneAt (x := x) (heap_alloc_new w _))) fun r w' hg => by
    rcases hg with ⟨_, _, h3, b, h4, h5⟩ | ⟨h1, h2, h3⟩
    · refine .inl ⟨h3 x (by simp), b, h4, ?_⟩
      obtain ⟨F, k1, k2, k3, k4, k5⟩ := h5
      refine ⟨F, fun i hi => ?_, k2, k3, k4, k5⟩
      have := k1 i hi
      obtain rfl : i = 0 := by omega
      exact this
    · refine .inr ⟨fun h => ?_, by simpa using h2, h3⟩
      rcases h1 with h1 | h1
      · simp at h1
      · exact h1 (by simpa using h)
theorem new_one_ok {W w : World} (h : Many W w 0 (fun _ => 0) (fun _ => B0) []) {x : Int} (hx : sizeOk x) :
    Calls Try.prog 24 #[.slice (some ⟨w.heap.size, 0, none⟩) 1 1] (w.alloc (.cells #[.int .i64 x] 3)) (Gives fun r w' => ∃ b, r = .tuple #[.pointer (some ⟨b, 0, none⟩), .int .u16 0] ∧ Sole W b (By.fresh [x] 1) [] w') :=
  Gives.imp (new_one h x) fun r w' hg => by
    rcases hg with ⟨_, hg⟩ | ⟨hn, _⟩
    · exact hg
    · exact absurd hx hn
theorem new_one_bad {W w : World} (h : Many W w 0 (fun _ => 0) (fun _ => B0) []) {x : Int} (hx : ¬ sizeOk x) :
    Calls Try.prog 24 #[.slice (some ⟨w.heap.size, 0, none⟩) 1 1] (w.alloc (.cells #[.int .i64 x] 3)) (Gives fun r w' => r = .tuple #[.pointer none, .int .u16 40] ∧ Many W w' 0 (fun _ => 0) (fun _ => B0) []) :=
  Gives.imp (new_one h x) fun r w' hg => by
    rcases hg with ⟨hn, _⟩ | ⟨_, hg⟩
    · exact absurd hn hx
    · exact hg

theorem length_sector {l : List Int} {k : Nat} (h : 128 * (k + 1) ≤ l.length) : (sector l k).length = 128 := by unfold sector; simp; omega
theorem BytesAt.sector {w : World} {bb o cap : Nat} {l : List Int} (h : BytesAt w (.slice (some ⟨bb, o, none⟩) l.length cap) l) {k : Nat} (hk : 128 * (k + 1) ≤ l.length) : BytesAt w (.slice (some ⟨bb, o + 128 * k, none⟩) 128 (cap - 128 * k)) (sector l k) := by
  obtain ⟨a, c, hv, h1, h2, h3⟩ := h
  simp only [Value.slice.injEq, true_and] at hv
  obtain ⟨rfl, rfl⟩ := hv
  refine ⟨_, _, by rw [length_sector hk], by rw [length_sector hk]; omega, by omega, fun _ => ⟨bb, o + 128 * k, rfl, fun j v hj => ?_⟩⟩
  obtain ⟨bb', o', e, hr⟩ := h3 (by rintro rfl; simp at hk)
  simp only [Option.some.injEq, Addr.mk.injEq, and_true] at e
  obtain ⟨rfl, rfl⟩ := e
  have hj1 : j < 128 := by have := (List.getElem?_eq_some_iff.1 hj).1; simpa [length_sector hk] using this
  have : (u8s l)[128 * k + j]? = some v := by
    rw [← hj]
    simp only [u8s, Go.Proofs.Ytghnbbpoaeheaaa.sector, List.getElem?_map, List.getElem?_take, List.getElem?_drop, if_pos hj1]
  have := hr (128 * k + j) v this
  rwa [show o + (128 * k + j) = o + 128 * k + j by omega] at this

/-- The sectors of an image that the call holds. -/
theorem Sole.sectorsAt {W w : World} {b : Nat} {B : By} {L : List (Value × List Int)} {x : Option Addr} {n cap m : Nat} {l : List Int} (h : Sole W b B L w) (hm : (Value.slice x n cap, l) ∈ L) (hl : l.length = n) (hn : n = 128 * m) (h1 : 1 ≤ m) :
    ∃ bb o, x = some ⟨bb, o, none⟩ ∧ 128 * m ≤ cap ∧ cap ≤ maxLen ∧ ∀ w', Keep NoF w w' → ∀ k, k < m → BytesAt w' (.slice (some ⟨bb, o + 128 * k, none⟩) (128 * (k + 1) - 128 * k) (cap - 128 * k)) (sector l k) := by
  have hb := Many.bytes h hm
  obtain ⟨a, c, hv, h2, h3, h4⟩ := id hb
  have hne : l ≠ [] := by rintro rfl; simp at hl; omega
  obtain ⟨bb, o, rfl, -⟩ := h4 hne
  simp only [Value.slice.injEq] at hv
  obtain ⟨rfl, -, rfl⟩ := hv
  refine ⟨bb, o, rfl, by omega, h3, fun w' hk k hlt => ?_⟩
  subst hl
  rw [show 128 * (k + 1) - 128 * k = 128 by omega]
  exact BytesAt.sector (BytesAt.keep hb hk (fun _ _ _ _ h => h)) (by omega)

/-- How far BayCuts' first loop has come. -/
def CutsAt (W : World) (b : Nat) (ops : List OpD) (at_ : Int) (m i : Nat) (w : World) : Prop := ∃ B, Sole W b B [] w ∧ Cuts ops at_ m i B ∧ B.Small (2 * i)
theorem cuts_start {ops : List OpD} {at_ s : Int} (hs : s ≠ 0) : Cuts ops at_ s.toNat 0 (By.fresh [s] 1) :=
  ⟨rfl, ⟨rfl, rfl⟩, ⟨Dk.new s.toNat, by simp [By.fresh, freshDev, hs], rfl, by simp [Dk.new], fun x hx => by have := (List.mem_replicate.1 hx).2; subst this; simp, fun e he => (by cases he), fun e he => (by cases he)⟩, by simp [By.fresh]⟩
theorem flush_empties {B : By} (hn : B.n = 1) (hc : B.Calm) {D : Dk} (h1 : B.dev 0 = some ⟨D, false, 0⟩) (hf : D.failed = false) : ∀ E, (B.op 0 5 Dk.flush).dev 0 = some ⟨E, false, 0⟩ → E.cache = [] := by
  intro E hE
  have e : B.op 0 5 Dk.flush = (B.tick 5).setDev 0 (some ⟨D.flush, false, 0⟩) := by
    rw [calm_op hc (is01 hn) (e := ⟨D, false, 0⟩) h1]
    rfl
  have ef : D.flush = D.settle (fun _ => true) := by unfold Dk.flush; rw [hf]; rfl
  rw [e] at hE
  have : D.flush = E := by simpa [By.setDev] using hE
  rw [← this, ef]; rfl
theorem flush_cache (D : Dk) : D.flush.cache.length ≤ D.cache.length + 1 := by unfold Dk.flush; split <;> simp [Dk.settle]
end Go.Proofs.Ytghnbbpoaeheaaa

/- BaySlots, as plain data: what is done with other slots leaves a slot's disk; two lists of ints held against each other. -/
namespace Go.Proofs.Ytghnbbpoaeheaaa
open Go.RowKit

/-- Slot s of a bay has e; its light is on, no trip is set. -/
structure Slots (s n : Nat) (e : Option Dev) (B : By) : Prop where
  n : B.n = n
  calm : B.Calm
  dev : B.dev (s * 3) = e

section
variable {s m : Nat} {e : Option Dev} {B : By}
theorem slots_ne {k : Int} (hne : k ≠ (s : Int)) (hk : 0 ≤ k) : s * 3 ≠ k.toNat * 3 := by omega
theorem slots_set (h : Slots s m e B) {k : Int} (hne : k ≠ (s : Int)) (hk : B.is k) (x : Option Dev) : Slots s m e (B.setDev (k.toNat * 3) x) :=
  ⟨h.n, ⟨h.calm.trip, h.calm.dark⟩, by simp only [By.setDev, put_other _ _ (slots_ne hne hk.1)]; exact h.dev⟩
theorem slots_tick (h : Slots s m e B) (ci : Nat) : Slots s m e (B.tick ci) := by
  refine ⟨h.n, ⟨?_, h.calm.dark⟩, h.dev⟩
  simp [By.tick, h.calm.trip]
theorem slots_op (h : Slots s m e B) {k : Int} (hne : k ≠ (s : Int)) (ci : Nat) (g : Dk → Dk) : Slots s m e (B.op k ci g) := by
  unfold By.op
  by_cases hk : B.is k
  · rw [if_pos hk, h.calm.start, h.calm.dark]
    simp only [Bool.false_eq_true, if_false]
    cases B.in k with
    | none => exact slots_tick h ci
    | some d => exact slots_set (slots_tick h ci) hne hk _
  · rw [if_neg hk]; exact h
theorem slots_in {k : Int} {d : Dev} (hd : B.in k = some d) : B.is k := by
  unfold By.in at hd
  by_cases hk : B.is k
  · exact hk
  · rw [if_neg hk] at hd; cases hd
theorem slots_failed (h : Slots s m e B) {k : Int} (hne : k ≠ (s : Int)) : Slots s m e (B.failed k) := by
  unfold By.failed
  cases hd : B.in k with
  | none => exact h
  | some d => exact slots_set h hne (slots_in hd) _
theorem slots_wear (h : Slots s m e B) {k : Int} (hne : k ≠ (s : Int)) (n : Int) : Slots s m e (B.wear k n) := by
  unfold By.wear
  split
  · exact h
  · cases hd : B.in k with
    | none => exact h
    | some d => exact slots_set h hne (slots_in hd) _
theorem slots_lay (h : Slots s m e B) {k : Int} (hne : k ≠ (s : Int)) (D : Option Dk) : Slots s m e (B.lay k D) := by
  unfold By.lay
  by_cases hk : B.is k
  · rw [if_pos hk]
    split
    · exact h
    · cases D with
      | none => exact h
      | some D => exact slots_set h hne hk _
  · rw [if_neg hk]; exact h
theorem slots_pull (h : Slots s m e B) {k : Int} (hne : k ≠ (s : Int)) : Slots s m e (B.pull k) := by
  unfold By.pull
  cases hd : B.in k with
  | none => exact h
  | some d =>
    have hk := slots_in hd
    have h1 := slots_set h hne hk (some { d with disk := d.disk.crash [] })
    have hk0 := hk.1
    refine ⟨h.n, ⟨h.calm.trip, h.calm.dark⟩, ?_⟩
    show moved (aside (k.toNat * 3)) _ none (s * 3) = e
    unfold moved aside
    rw [if_neg (by omega), if_neg (by omega)]
    exact h1.dev
theorem slots_push (h : Slots s m e B) {k : Int} (hne : k ≠ (s : Int)) : Slots s m e (B.push k) := by
  unfold By.push
  split
  · rename_i hp
    have hk : B.is k := by
      unfold By.pushc at hp
      by_cases hk : B.is k
      · exact hk
      · rw [if_neg hk] at hp; cases hp
    have hk0 := hk.1
    refine ⟨h.n, ⟨h.calm.trip, h.calm.dark⟩, ?_⟩
    show moved (coming (k.toNat * 3)) _ none (s * 3) = e
    unfold moved coming
    rw [if_neg (by omega), if_neg (by omega)]
    exact h.dev
  · exact h
theorem Small.lay {x : Int} (h : B.Small x) (hx : 0 ≤ x) (k : Int) (D : Option Dk) (hD : ∀ d, D = some d → d.cache = []) : (B.lay k D).Small x := by
  unfold By.lay
  split
  · split
    · exact h
    · cases D with
      | none => exact h
      | some D => exact Small.setDev h fun e he => by obtain rfl := (Option.some.inj he).symm; simp only; rw [hD D rfl]; simpa using hx
  · exact h
/-- What slot s answers. -/
structure Said (s : Nat) (size : Int) (c : Int) (l p : List Int) (B : By) : Prop where
  code : B.tcode s = c
  image : B.image s = l
  pending : B.pending s = p
  has : B.has s = decide (0 < size)
  sectors : B.sectors s = size
theorem slots_said {B' : By} (h : Slots s m e B) (h' : Slots s m e B') (hs : s < m) {size c : Int} {l p : List Int} (hd : Said s size c l p B) : Said s size c l p B' := by
  have k1 : B.is s := ⟨by omega, by rw [h.n]; omega⟩
  have k2 : B'.is s := ⟨by omega, by rw [h'.n]; omega⟩
  have e1 : (s : Int).toNat * 3 = s * 3 := by simp
  have i1 : B.in s = e := by unfold By.in; rw [if_pos k1, e1, h.dev]
  have i2 : B'.in s = e := by unfold By.in; rw [if_pos k2, e1, h'.dev]
  obtain ⟨a1, a2, a3, a4, a5⟩ := hd
  refine ⟨?_, ?_, ?_, ?_, ?_⟩
  · rw [← a1]; unfold By.tcode; rw [if_pos k1, if_pos k2, e1, h.dev, h'.dev]
  · rw [← a2]; unfold By.image; rw [i1, i2]
  · rw [← a3]; unfold By.pending; rw [i1, i2]
  · rw [← a4]; unfold By.has; rw [i1, i2]
  · rw [← a5]; unfold By.sectors; rw [i1, i2]
end
/-- The bay behind the first write. -/
theorem slots_start (l : List Int) {s : Nat} {z : Int} (hz : l[s]? = some z) (hok : sizeOk z) (x : List Int) :
    ∃ e c im p, Slots s l.length e ((By.fresh l l.length).op s 4 (fun D => D.write 0 x)) ∧ Said s z c im p ((By.fresh l l.length).op s 4 (fun D => D.write 0 x)) := by
  have hlt : s < l.length := (List.getElem?_eq_some_iff.1 hz).1
  have hk : (By.fresh l l.length).is s := ⟨by omega, by show (s : Int) < l.length; omega⟩
  have hc : (By.fresh l l.length).Calm := ⟨rfl, rfl⟩
  have hi := fresh_slot l hz
  have e1 : (s : Int).toNat * 3 = s * 3 := by simp
  have hdv : (By.fresh l l.length).dev (s * 3) = freshDev z := by
    have := hi
    unfold By.in at this
    rw [if_pos hk, e1] at this
    exact this
  by_cases h0 : z = 0
  · have hd : freshDev z = none := by unfold freshDev; rw [if_pos h0]
    rw [hd] at hi hdv
    have e : (By.fresh l l.length).op s 4 (fun D => D.write 0 x) = (By.fresh l l.length).tick 4 := by
      unfold By.op
      rw [if_pos hk, hc.start, hc.dark, hi]
      rfl
    rw [e]
    have hk' : ((By.fresh l l.length).tick 4).is s := hk
    have hi' : ((By.fresh l l.length).tick 4).in s = none := by unfold By.in; rw [if_pos hk', e1]; exact hdv
    refine ⟨none, _, _, _, ⟨rfl, ⟨by simp [By.tick, By.fresh], rfl⟩, hdv⟩, rfl, rfl, rfl, ?_, ?_⟩
    · unfold By.has; rw [hi']; simp [h0]
    · unfold By.sectors; rw [hi']; exact h0.symm
  · have hz2 : 1 ≤ z ∧ z ≤ 8192 := by
      rcases hok with h | h
      · exact absurd h h0
      · exact h
    obtain ⟨z1, z2⟩ := hz2
    have hd : freshDev z = some ⟨Dk.new z.toNat, false, 0⟩ := by unfold freshDev; rw [if_neg h0]
    rw [hd] at hi hdv
    have e : (By.fresh l l.length).op s 4 (fun D => D.write 0 x) = ((By.fresh l l.length).tick 4).setDev (s * 3) (some ⟨(Dk.new z.toNat).write 0 x, false, 0⟩) := by
      rw [calm_op hc hk (e := ⟨Dk.new z.toNat, false, 0⟩) (by rw [e1]; exact hdv), e1]
      rfl
    rw [e]
    have hk' : (((By.fresh l l.length).tick 4).setDev (s * 3) (some ⟨(Dk.new z.toNat).write 0 x, false, 0⟩)).is s := hk
    have hdv' : (((By.fresh l l.length).tick 4).setDev (s * 3) (some ⟨(Dk.new z.toNat).write 0 x, false, 0⟩)).dev (s * 3) = some ⟨(Dk.new z.toNat).write 0 x, false, 0⟩ := by simp [By.setDev]
    have hi' : (((By.fresh l l.length).tick 4).setDev (s * 3) (some ⟨(Dk.new z.toNat).write 0 x, false, 0⟩)).in s = some ⟨(Dk.new z.toNat).write 0 x, false, 0⟩ := by unfold By.in; rw [if_pos hk', e1]; exact hdv'
    refine ⟨_, _, _, _, ⟨rfl, Calm.tick hc _ _ _, hdv'⟩, rfl, rfl, rfl, ?_, ?_⟩
    · unfold By.has
      rw [hi']
      simp only [Dk.write_failed]
      simp [Dk.new]
      omega
    · unfold By.sectors
      rw [hi']
      simp only [write_las]
      simp [Dk.new]
      omega
set_option maxRecDepth 100000 in
set_option maxHeartbeats 1000000 in
theorem sameInts_loop (w : World) (b1 o1 c1 b2 o2 c2 : Nat) (l1 l2 : List Int) (hlen : l1.length = l2.length) (hne : l1 ≠ []) (hm : l1.length ≤ maxLen) (h1 : w.rangeAt b1 o1 (ints l1)) (h2 : w.rangeAt b2 o2 (ints l2)) :
    Calls Try.prog 50 #[.slice (some ⟨b1, o1, none⟩) l1.length c1, .slice (some ⟨b2, o2, none⟩) l2.length c2] w (Gives fun v w' => v = .bool (decide (l1 = l2)) ∧ Keep NoF w w') := by
  have H1 := Lib.hid h1
  have H2 := Lib.hid h2
  have HL := Lib.hid hlen
  have hpos : 0 < l1.length := List.length_pos_iff.2 hne
  have hle : (l1.length : Int) ≤ 9223372036854775807 := by unfold maxLen at hm; omega
  rw [← hlen]
  clear h1 h2 hlen hne hm
  go_enter Try.func50, Try.ntmps50
  go_wp2
  go_loopw [5] (fun t wr => ∃ i : Nat, i ≤ l1.length ∧ t = .int .i64 i ∧ l1.take i = l2.take i ∧ Keep NoF w wr) (fun t _ => l1.length - (intOf t).toNat)
  case atStart => exact ⟨0, Nat.zero_le _, rfl, by simp, Keep.refl _ _⟩
  case round =>
    obtain ⟨i, hi, rfl, htk, hkeep⟩ := hrel
    by_cases hlt : i < l1.length
    · have hlt2 : i < l2.length := HL.out ▸ hlt
      obtain ⟨x, hx⟩ : ∃ x, l1[i]? = some x := ⟨_, List.getElem?_eq_getElem hlt⟩
      obtain ⟨y, hy⟩ : ∃ y, l2[i]? = some y := ⟨_, List.getElem?_eq_getElem hlt2⟩
      have hc1 : wr.cell? ⟨b1, o1 + i, none⟩ = some (.int .i64 x) := by
        have h := H1.out i (.int .i64 x) (by simp [ints, hx])
        rw [World.cell?_of_block (w := w) (hkeep.block b1 (World.block_lt_of_cell? w _ h) (fun h => h))]; exact h
      have hc2 : wr.cell? ⟨b2, o2 + i, none⟩ = some (.int .i64 y) := by
        have h := H2.out i (.int .i64 y) (by simp [ints, hy])
        rw [World.cell?_of_block (w := w) (hkeep.block b2 (World.block_lt_of_cell? w _ h) (fun h => h))]; exact h
      have HK : Hid (∀ nq, Keep NoF w (wr.drewN nq)) := fun nq => hkeep.trans' (Keep.drewN _ _ _)
      by_cases hxy : x = y
      · have HT : Hid (l1.take (i + 1) = l2.take (i + 1)) := by
          show _ = _
          rw [List.take_add_one, List.take_add_one, htk, hx, hy, hxy]
        subst hxy
        clear hx hy htk hkeep hlt2
        go_wp2
        go_quiet (fail)
        go_wp2
        exact ⟨⟨i + 1, by omega, by go_num, HT.out, HK.out _⟩, by simp [intOf]; omega⟩
      · have hb : (x != y) = true := by simpa using hxy
        have HD : Hid (decide (l1 = l2) = false) := by
          show _ = _
          simp only [decide_eq_false_iff_not]
          rintro rfl
          rw [hx] at hy
          exact hxy (Option.some.inj hy)
        clear hx hy htk hkeep hlt2 hxy
        go_wp2
        go_quiet (fail)
        go_wp2
        go_ret
        exact ⟨_, rfl, by rw [HD.out]; rfl, HK.out _⟩
    · have hie : i = l1.length := by omega
      subst hie
      have HD : Hid (decide (l1 = l2) = true) := by
        show _ = _
        simp only [decide_eq_true_eq]
        rw [List.take_length, HL.out, List.take_length] at htk
        exact htk
      have HK := Lib.hid hkeep
      clear htk hkeep
      go_wp2
      go_ret
      exact ⟨_, rfl, by rw [HD.out]; rfl, HK.out⟩

theorem sameInts_any {w : World} {v1 v2 : Value} {l1 l2 : List Int} (h1 : IntsAt w v1 l1) (h2 : IntsAt w v2 l2) : Calls Try.prog 50 #[v1, v2] w (Gives fun v w' => v = .bool (decide (l1 = l2)) ∧ Keep NoF w w') := by
  obtain ⟨a1, c1, rfl, p1, r1⟩ := h1
  obtain ⟨a2, c2, rfl, p2, r2⟩ := h2
  by_cases hl : l1.length = l2.length
  · by_cases hne : l1 = []
    · subst hne
      have : l2 = [] := List.length_eq_zero_iff.1 hl.symm
      subst this
      clear p1 r1 p2 r2 hl
      go_enter Try.func50, Try.ntmps50
      go_wp2
      refine wp_loop_rounds 1 ?_
      rw [rounds_succ]
      go_wp2
      go_ret
      exact ⟨_, rfl, by simp, Keep.refl _ _⟩
    · have hne2 : l2 ≠ [] := by rintro rfl; exact hne (List.length_eq_zero_iff.1 hl)
      obtain ⟨b1, o1, rfl, s1⟩ := r1 hne
      obtain ⟨b2, o2, rfl, s2⟩ := r2 hne2
      exact sameInts_loop w b1 o1 c1 b2 o2 c2 l1 l2 hl hne p1 s1 s2
  · have HD : Hid (decide (l1 = l2) = false) := by
      show _ = _
      simp only [decide_eq_false_iff_not]
      rintro rfl
      exact hl rfl
    have hne : ((l1.length : Int) != (l2.length : Int)) = true := by simp; omega
    clear p1 r1 p2 r2
    go_enter Try.func50, Try.ntmps50
    go_wp2
    go_ret
    exact ⟨_, rfl, by rw [HD.out]; rfl, Keep.refl _ _⟩
end Go.Proofs.Ytghnbbpoaeheaaa

/- spindlelaw04's sector and known, walked. -/
namespace Go.Proofs.Ytghnbbpoaeheaaa
open Go.RowKit

/-- How far the loop of 'sector' has come. -/
def Filling (w : World) (g : Nat) (c : Int) (i : Nat) (wr : World) : Prop := wr.heap[g]? = some (.cells (u8s (List.replicate i c ++ List.replicate (128 - i) 0)).toArray 5 (0, 0)) ∧ Keep (· = g) w wr
set_option maxRecDepth 100000 in
set_option maxHeartbeats 1000000 in
theorem sector_any (c : Int) (w : World) : Calls Try.prog 51 #[.int .u8 c] w (Gives (FreshB w (List.replicate 128 c))) := by
  go_enter Try.func51, Try.ntmps51
  go_wp2_with (at_make; go_must (refine wpList_make22f rfl _ _ rfl _ 128 rfl rfl (by rfl) (by omega) ?_); intro w1 ho hg; have HO := Lib.hid ho; have HG := Lib.hid hg; clear ho hg)
  have HK1 : Hid (Keep NoF w w1) := Keep.grown HG.out (fun _ h => by cases h)
  go_loopw [4] (fun t wr => ∃ i : Nat, i ≤ 128 ∧ t = .int .i64 i ∧ Filling w1 w.heap.size c i wr) (fun t _ => 128 - (intOf t).toNat)
  case atStart => exact ⟨0, by omega, rfl, by simpa using HO.out, Keep.refl _ _⟩
  case round =>
    obtain ⟨i, hi, rfl, hf1, hf2⟩ := hrel
    by_cases hlt : i < 128
    · have hc : wr.cell? ⟨w.heap.size, i, none⟩ = some (.int .u8 0) := cell_at hf1 i (by
        simp only [u8s, List.getElem?_toArray, List.getElem?_map]
        rw [List.getElem?_append_right (by simp)]
        simp only [List.length_replicate, Nat.sub_self, List.getElem?_replicate]
        rw [if_pos (by omega)]
        rfl)
      have hfr := free_at hf1 i
      have hlt2 := lt_of_heap hf1
      have HN : Hid (Filling w1 w.heap.size c (i + 1) (wr.setCell ⟨w.heap.size, i, none⟩ (.int .u8 c))) := by
        refine ⟨?_, hf2.trans' (Keep.setCell (F := (· = w.heap.size)) wr ⟨w.heap.size, i, none⟩ (.int .u8 c) rfl)⟩
        rw [heap_setCell_same wr w.heap.size i _ _ (.int .u8 c) hf1]
        congr 2
        apply Array.ext_getElem?
        intro j
        rw [Array.getElem?_setIfInBounds]
        simp only [u8s, List.getElem?_toArray, List.getElem?_map, List.size_toArray, List.length_map, List.length_append, List.length_replicate]
        by_cases e : i = j
        · subst e
          rw [if_pos rfl, if_pos (by omega), List.getElem?_append_left (by simp)]
          simp
        · rw [if_neg e]
          by_cases h : j < i
          · rw [List.getElem?_append_left (by simpa using h), List.getElem?_append_left (by simp; omega)]
            simp [h, show j < i + 1 by omega]
          · rw [List.getElem?_append_right (by simp; omega), List.getElem?_append_right (by simp; omega)]
            simp only [List.getElem?_replicate, List.length_replicate]
            by_cases h2 : j < 128
            · rw [if_pos (by omega), if_pos (by omega)]
            · rw [if_neg (by omega), if_neg (by omega)]
      clear hf1 hf2
      go_wp2
      exact ⟨⟨i + 1, by omega, by go_num, HN.out⟩, by simp [intOf]; omega⟩
    · obtain rfl : i = 128 := by omega
      have H1 := Lib.hid hf1
      have H2 := Lib.hid hf2
      clear hf1 hf2
      go_wp2
      go_ret
      refine ⟨_, rfl, ?_, HK1.out.trans H2.out (fun x hx e => by have e : x = w.heap.size := e; omega)⟩
      have h1 : wr.heap[w.heap.size]? = some (.cells (u8s (List.replicate 128 c)).toArray 5 (0, 0)) := by simpa using H1.out
      exact ⟨by simp [u8s], .inr ⟨w.heap.size, 128, _, by simp, Nat.le_refl _, h1, by simp, by simp [maxLen], by simp [u8s], by simp [u8s]⟩⟩
end Go.Proofs.Ytghnbbpoaeheaaa

/- What is lent: a copy with two marks behind it; looked at, written over. -/
namespace Go.Proofs.Ytghnbbpoaeheaaa
open Go.RowKit

def LentAt (w : World) (s : Value) (l : List Int) (g : Nat) : Prop :=
  ∃ cap cur, s = .slice (some ⟨g, 0, none⟩) l.length cap ∧ w.heap[g]? = some (.cells cur 5 (0, 0)) ∧ l.length + 2 ≤ cap ∧ cap ≤ maxLen ∧ cur.size = cap ∧ cur.toList.take (l.length + 2) = u8s (l ++ [91, 92])
theorem LentAt.keep {w w' : World} {s : Value} {l : List Int} {g : Nat} {G : Nat → Prop} (h : LentAt w s l g) (hk : Keep G w w') (hG : ¬ G g) : LentAt w' s l g := by
  obtain ⟨cap, cur, h1, h2, h3⟩ := h; exact ⟨cap, cur, h1, hk.at h2 hG, h3⟩
theorem LentAt.range {w : World} {s : Value} {l : List Int} {g : Nat} (h : LentAt w s l g) : w.rangeAt g 0 (u8s (l ++ [91, 92])) := by
  obtain ⟨cap, cur, h1, h2, h3, h4, h5, h6⟩ := h
  refine range_at h2 0 _ ?_
  rw [List.drop_zero]
  simpa using h6
theorem LentAt.bytes {w : World} {s : Value} {l : List Int} {g : Nat} (h : LentAt w s l g) : BytesAt w s l := by
  have hr := h.range
  obtain ⟨cap, cur, h1, h2, h3, h4, h5, h6⟩ := h
  refine ⟨_, cap, h1, by omega, h4, fun _ => ⟨g, 0, rfl, fun j v hj => hr j v ?_⟩⟩
  rw [u8s_append, List.getElem?_append_left (by simpa using (List.getElem?_eq_some_iff.1 hj).1)]
  exact hj
theorem wpList_make22o {ops : Array Oper} {rest : List Oper} {o : Oper} {a : Act} {Q : Exit → Act → World → Prop} {w : World} (hg : o.guard = none) (l c : Operand) (hop : o.op = Op.makeSlice 22 l c)
    (C : Int) (n : Nat) (hl : a.eval l = .int .i64 0) (hc : a.eval c = .int .i64 C) (hC : C = (n : Int)) (b2 : n ≤ 1073741824)
    (hK : ∀ w', w'.ownsRow w.heap.size 5 1 (.slice (some ⟨w.heap.size, 0, none⟩) 0 n) 0 [] → w.grownBy w' none → wpList Try.prog ops Q rest (a.put o.dst (.slice (some ⟨w.heap.size, 0, none⟩) 0 n)) w') : wpList Try.prog ops Q (o :: rest) a w := by
  obtain ⟨i, hi, he⟩ := info_of i5
  simp only [Prod.mk.injEq] at he
  obtain ⟨he1, he2, he3⟩ := he
  exact wpList_make_own w hg l c 22 hop w.heap.size 5 i _ 1 Try.underlying22 hi he1 he2 .i64 .i64 C n hl hc hC (by rw [he3]; omega) (by unfold maxLen; omega) (Nat.le_refl _) hK
theorem run_append22_none (w : World) (ty : TypeId) (b : Option Addr) (n c : Nat) (h : n ≤ c) (x : Option Addr) (k : Nat) : (Builtin.append_ #[22, 22] ty #[.slice b n c, .slice x 0 k]).run Try.prog w = .ok (.slice b n c) w := by
  obtain ⟨i, hi, he⟩ := info_of i5
  have hl : ∀ (x : Addr), (loadCells x 0).run Try.prog w = .ok #[] w := fun x => by simpa using run_loadCells_list (P := Try.prog) w x [] (by simp)
  cases b <;> cases x <;> simp [Builtin.append_, run_underlying Try.underlying22, sizeOf, typeInfo, hi, h, storeCells, Builtin.lenOf, Builtin.firstCells, hl]
theorem wpList_app22n {ops : Array Oper} {rest : List Oper} {o : Oper} {a : Act} {Q : Exit → Act → World → Prop} {w : World} (hgd : o.guard = none) (s x : Operand) (ho : o.op = .call { callee := .builtin .append, args := #[s, x], argTypes := #[22, 22] })
    (b : Option Addr) (n c : Nat) (hs : a.eval s = .slice b n c) (hle : n ≤ c) (ax : Option Addr) (k : Nat) (hx : a.eval x = .slice ax 0 k) (h : wpList Try.prog ops Q rest (a.put o.dst (.slice b n c)) w) : wpList Try.prog ops Q (o :: rest) a w := by
  refine wpList_plain hgd fun K hK => ?_
  have hrun := run_append22_none w o.type b n c hle ax k
  unfold Oper.wp
  simp [execOp, ho, resolve, invoke, builtin, hs, hx, hrun, Result.andThen]
  exact hK _ _ h
theorem own_some {w : World} {base n : Nat} {v : Value} {xs : List Value} (h : w.ownsRow base 5 1 v (n + 1) xs) : ∃ g cap cur, v = .slice (some ⟨g, 0, none⟩) (n + 1) cap ∧ base ≤ g ∧ w.heap[g]? = some (.cells cur 5 (0, 0)) ∧ n + 1 ≤ cap ∧ cap ≤ maxLen ∧ cur.size = cap ∧ cur.toList.take (n + 1) = xs := by
  rcases h.2 with ⟨_, h0⟩ | ⟨g, cap, cur, hv, hg, hh, hc, hm, hs, ht⟩
  · omega
  · exact ⟨g, cap, cur, hv, hg, hh, hc, hm, by simpa using hs, by simpa using ht⟩

set_option maxRecDepth 100000 in
set_option maxHeartbeats 1000000 in
theorem lent_any {w : World} {v : Value} {l : List Int} (hv : BytesAt w v l) (hn : l.length ≤ 1000000000) : Calls Try.prog 11 #[v] w (Gives fun s w' => ∃ g, LentAt w' s l g ∧ w.heap.size ≤ g ∧ Keep NoF w w') := by
  obtain ⟨a, cap, rfl, h1, h2, h3⟩ := hv
  have hw1 : IntKind.i64.wrap ((l.length : Int) + 2) = l.length + 2 := IntWalk.i64_in _ (by omega)
  have HP : Hid (∀ w1 w2 w3 v1 v2, w1.ownsRow w.heap.size 5 1 v1 l.length (u8s l) → Keep NoF w w1 → (w1.alloc (.cells #[.int .u8 91, .int .u8 92] 5)).grownBy w2 v1.ownBlock → w2.ownsRow w.heap.size 5 1 v2 (l.length + 2) (u8s l ++ [.int .u8 91, .int .u8 92]) → Keep NoF w2 w3 →
      ∃ g cap, v2 = .slice (some ⟨g, 0, none⟩) (l.length + 2) cap ∧ l.length + 2 ≤ cap ∧ ∃ g', LentAt w3 (.slice (some ⟨g, 0, none⟩) l.length cap) l g' ∧ w.heap.size ≤ g' ∧ Keep NoF w w3) := fun w1 w2 w3 v1 v2 ho1 hk1 hg ho2 hk3 => by
    obtain ⟨g, cap, cur, hv, hge, hh, hc, hm, hs, ht⟩ := own_some (n := l.length + 1) ho2
    refine ⟨g, cap, hv, hc, g, ⟨cap, cur, rfl, hk3.at hh (fun h => h), hc, hm, hs, ?_⟩, hge, ?_⟩
    · rw [u8s_append]; exact ht
    · refine Keep.trans' (hk1.trans (G := fun x => v1.ownBlock = some x) ((Keep.alloc _ _ _).trans' (Keep.grown hg fun x hx => hx)) fun x hx e => ?_) hk3
      have := (ho1.lt x e).1
      omega
  have HL : Hid ((u8s l).length = l.length) := length_u8s _
  have HU := Lib.hid (u8s_one l)
  have H91 : Hid (∀ (w1 : World) j u, [Value.int .u8 91, .int .u8 92][j]? = some u → (w1.alloc (.cells #[.int .u8 91, .int .u8 92] 5)).cell? ((⟨w1.heap.size, 0, none⟩ : Addr).add j) = some u) := fun w1 j u hj => by
    have hadd : (⟨w1.heap.size, 0, none⟩ : Addr).add j = ⟨w1.heap.size, 0 + j, none⟩ := by unfold Addr.add; split <;> simp_all
    rw [hadd]
    exact cell_at (heap_alloc_new w1 _) _ (by simpa using hj)
  have H2 : Hid (∀ u ∈ [Value.int .u8 91, .int .u8 92], u.oneCell' = true) := fun u hu => by
    rcases List.mem_cons.1 hu with rfl | hu
    · rfl
    · obtain rfl : u = .int .u8 92 := by simpa using hu
      rfl
  by_cases h0 : l.length = 0
  · obtain rfl : l = [] := List.length_eq_zero_iff.1 h0
    have HG1 : Hid (∀ w1, w.grownBy w1 none → Keep NoF w w1) := fun w1 hg => Keep.grown hg (fun x hx => by cases hx)
    clear h1 h2 h3 h0 hw1 hn HL HU
    go_enter Try.func11, Try.ntmps11
    go_wp2_with (first | (at_make; go_must (refine wpList_make22o rfl _ _ rfl _ 2 rfl rfl (by rfl) (by omega) ?_); intro w1 ho hg; have HO1 := Lib.hid ho; have HG := Lib.hid hg; clear ho hg) |
      (at_builtin; refine wpList_app22 rfl _ _ rfl w.heap.size _ 0 [] rfl (World.ownsRow.alloc HO1.out _) ⟨w1.heap.size, 0, none⟩ 2 2 [.int .u8 91, .int .u8 92] rfl rfl (H91.out w1) H2.out (by omega) (by have := (HG1.out _ HG.out).size; simp; omega) ?_; intro v3 w3 ho hg _; obtain ⟨g, cap3, rfl, hc3, hp3⟩ := HP.out w1 w3 w3 _ v3 HO1.out (HG1.out _ HG.out) hg ho (Keep.refl _ _); have HP3 := Lib.hid hp3; clear ho hg hp3) |
      (at_builtin; go_must (refine wpList_app22n rfl _ _ rfl _ 0 2 rfl (by omega) a cap rfl ?_)))
    go_ret
    exact ⟨_, rfl, HP3.out⟩
  · obtain ⟨bb, o, rfl, hr⟩ := h3 (by rintro rfl; simp at h0)
    have HN : Hid (∀ w1, Keep NoF w w1 → ∀ j u, (u8s l)[j]? = some u → w1.cell? ((⟨bb, o, none⟩ : Addr).add j) = some u) := fun w1 hk j u hj => by
      have hadd : (⟨bb, o, none⟩ : Addr).add j = ⟨bb, o + j, none⟩ := by unfold Addr.add; split <;> simp_all
      rw [hadd]
      exact hk.cell (hr j u hj) (fun h => h)
    have HK2 : Hid (∀ w1 w2 v1, w.grownBy w1 none → w1.ownsRow w.heap.size 5 1 v1 0 [] → w1.grownBy w2 v1.ownBlock → Keep NoF w w2) := fun w1 w2 v1 hg1 ho hg2 => by
      have hk1 : Keep NoF w w1 := Keep.grown hg1 (fun x hx => by cases hx)
      exact hk1.trans (G := fun x => v1.ownBlock = some x) (Keep.grown hg2 fun x hx => hx) fun x hx e => by have := (ho.lt x e).1; omega
    have HG1 : Hid (∀ w1, w.grownBy w1 none → Keep NoF w w1) := fun w1 hg => Keep.grown hg (fun x hx => by cases hx)
    clear h1 h2 h3 hr
    generalize hln : l.length = n at *
    go_enter Try.func11, Try.ntmps11
    go_wp2_with (first | (at_make; go_must (refine wpList_make22o rfl _ _ rfl _ (n + 2) rfl rfl (by omega) (by omega) ?_); intro w1 ho hg; have HO1 := Lib.hid ho; have HG := Lib.hid hg; clear ho hg) |
      (at_builtin; refine wpList_app22 rfl _ _ rfl w.heap.size _ n (u8s l) rfl (World.ownsRow.alloc HO2.out _) ⟨w2.heap.size, 0, none⟩ 2 2 [.int .u8 91, .int .u8 92] rfl rfl (H91.out w2) H2.out (by omega) (by have := HK.out.size; simp; omega) ?_; intro v3 w3 ho hg _; obtain ⟨g, cap3, rfl, hc3, hp3⟩ := HP.out w2 w3 w3 v2 v3 HO2.out HK.out hg ho (Keep.refl _ _); have HP3 := Lib.hid hp3; clear ho hg hp3) |
      (at_builtin; go_must (refine wpList_app22 rfl _ _ rfl w.heap.size _ 0 [] rfl HO1.out ⟨bb, o, none⟩ n cap (u8s l) rfl HL.out (HN.out _ (HG1.out _ HG.out)) HU.out (by omega) (HG1.out _ HG.out).size ?_); intro v2 w2 ho hg _; have HO2 : Hid (w2.ownsRow w.heap.size 5 1 v2 n (u8s l)) := (by have h := ho; rw [Nat.zero_add, List.nil_append] at h; exact h); have HK := Lib.hid (HK2.out _ _ _ HG.out HO1.out hg); clear ho hg))
    go_ret
    exact ⟨_, rfl, HP3.out⟩

set_option maxRecDepth 100000 in
set_option maxHeartbeats 1000000 in
/-- What was lent is as it was. -/
theorem whole_any {w : World} {s v : Value} {l : List Int} {g : Nat} (h : LentAt w s l g) (hv : BytesAt w v l) (hn : l.length ≤ 1000000000) : Calls Try.prog 14 #[s, v] w (Gives fun v w' => v = .bool true ∧ Keep NoF w w') := by
  have hr := h.range
  have HSA := Lib.hid (same_any h.bytes hv)
  obtain ⟨cap, cur, rfl, h2, h3, h4, h5, h6⟩ := h
  have c1 : w.cell? ⟨g, l.length, none⟩ = some (.int .u8 91) := by
    have := hr l.length (.int .u8 91) (by simp [u8s])
    simpa using this
  have c2 : w.cell? ⟨g, l.length + 1, none⟩ = some (.int .u8 92) := by
    have := hr (l.length + 1) (.int .u8 92) (by simp [u8s])
    simpa using this
  unfold maxLen at h4
  have hcl : (cap : Int) ≤ 9223372036854775807 := by omega
  simp only [decide_true] at HSA
  generalize l.length = n at *
  clear hr h2 h5 h6 hv
  go_enter Try.func14, Try.ntmps14
  go_wp2_with (go_at_call 19; go_must (refine HSA.out.mono ?_); rintro e w' ⟨v, rfl, rfl, hv⟩; have HK := Lib.hid hv; clear hv)
  go_ret
  exact ⟨_, rfl, rfl, HK.out⟩

set_option maxRecDepth 100000 in
set_option maxHeartbeats 1000000 in
/-- Its owner writes over it. -/
theorem spoil_any {w : World} {s : Value} {l : List Int} {g : Nat} (h : LentAt w s l g) : Calls Try.prog 15 #[s] w (Gives fun v w' => v = .tuple #[] ∧ Keep (· = g) w w') := by
  obtain ⟨cap, cur, rfl, h2, h3, h4, h5, h6⟩ := h
  unfold maxLen at h4
  have hcl : (cap : Int) ≤ 9223372036854775807 := by omega
  have hle : l.length ≤ cap := by omega
  generalize l.length = n at *
  have H0 : Hid (∃ cs, w.heap[g]? = some (Obj.cells cs 5 (0, 0)) ∧ cs.size = cap) := ⟨cur, h2, h5⟩
  clear h2 h3 h5 h6
  go_enter Try.func15, Try.ntmps15
  go_wp2
  go_loopw [3] (fun t wr => ∃ i : Nat, i ≤ cap ∧ t = .int .i64 i ∧ (∃ cs, wr.heap[g]? = some (Obj.cells cs 5 (0, 0)) ∧ cs.size = cap) ∧ Keep (· = g) w wr) (fun t _ => cap - (intOf t).toNat)
  case atStart => exact ⟨0, by omega, rfl, H0.out, Keep.refl _ _⟩
  case round =>
    obtain ⟨i, hi, rfl, ⟨cs, hc1, hc2⟩, hk⟩ := hrel
    by_cases hlt : i < cap
    · obtain ⟨u, hu⟩ : ∃ u, cs[i]? = some u := ⟨_, Array.getElem?_eq_getElem (by omega)⟩
      have c := cell_at hc1 i hu
      have f := free_at hc1 i
      have hlt2 := lt_of_heap hc1
      have HN : Hid ((∃ cs, (wr.setCell ⟨g, i, none⟩ (.int .u8 238)).heap[g]? = some (Obj.cells cs 5 (0, 0)) ∧ cs.size = cap) ∧ Keep (· = g) w (wr.setCell ⟨g, i, none⟩ (.int .u8 238))) :=
        ⟨⟨_, heap_setCell_same wr g i _ _ (.int .u8 238) hc1, by simpa using hc2⟩, hk.trans' (Keep.setCell (F := (· = g)) wr ⟨g, i, none⟩ (.int .u8 238) rfl)⟩
      clear hc1 hk hu
      go_wp2
      exact ⟨⟨i + 1, by omega, by go_num, HN.out.1, HN.out.2⟩, by simp [intOf]; omega⟩
    · obtain rfl : i = cap := by omega
      have HK := Lib.hid hk
      clear hk hc1
      go_wp2
      go_end0
      exact ⟨_, rfl, rfl, HK.out⟩
end Go.Proofs.Ytghnbbpoaeheaaa
