/- BaySlots, as plain data: what is done with other slots leaves a slot's disk; two lists of ints held against each other. -/
import Derived.Test.YtghnbbpoaeheaaaLay
import Derived.Test.YtghnbbpoaeheaaaTwo
import Derived.Test.YtghnbbpoaeheaaaCuts1
namespace Go.Proofs.Ytghnbbpoaeheaaa
open Go.RowKit

/-- Slot s of a bay has e; its light is on, no trip is set. -/
structure Slots (s n : Nat) (e : Option Dev) (B : By) : Prop where
  n : B.n = n
  calm : B.Calm
  dev : B.dev (s * 3) = e

section
variable {s m : Nat} {e : Option Dev} {B : By}
theorem slots_ne {k : Int} (hne : k ≠ (s : Int)) (hk : 0 ≤ k) : s * 3 ≠ k.toNat * 3 := by omega
theorem slots_set (h : Slots s m e B) {k : Int} (hne : k ≠ (s : Int)) (hk : B.is k) (x : Option Dev) : Slots s m e (B.setDev (k.toNat * 3) x) :=
  ⟨h.n, ⟨h.calm.trip, h.calm.dark⟩, by simp only [By.setDev, put_other _ _ (slots_ne hne hk.1)]; exact h.dev⟩
theorem slots_tick (h : Slots s m e B) (ci : Nat) : Slots s m e (B.tick ci) := by
  refine ⟨h.n, ⟨?_, h.calm.dark⟩, h.dev⟩
  simp [By.tick, h.calm.trip]
theorem slots_op (h : Slots s m e B) {k : Int} (hne : k ≠ (s : Int)) (ci : Nat) (g : Dk → Dk) : Slots s m e (B.op k ci g) := by
  unfold By.op
  by_cases hk : B.is k
  · rw [if_pos hk, h.calm.start, h.calm.dark]
    simp only [Bool.false_eq_true, if_false]
    cases B.in k with
    | none => exact slots_tick h ci
    | some d => exact slots_set (slots_tick h ci) hne hk _
  · rw [if_neg hk]; exact h
theorem slots_in {k : Int} {d : Dev} (hd : B.in k = some d) : B.is k := by
  unfold By.in at hd
  by_cases hk : B.is k
  · exact hk
  · rw [if_neg hk] at hd; cases hd
theorem slots_failed (h : Slots s m e B) {k : Int} (hne : k ≠ (s : Int)) : Slots s m e (B.failed k) := by
  unfold By.failed
  cases hd : B.in k with
  | none => exact h
  | some d => exact slots_set h hne (slots_in hd) _
theorem slots_wear (h : Slots s m e B) {k : Int} (hne : k ≠ (s : Int)) (n : Int) : Slots s m e (B.wear k n) := by
  unfold By.wear
  split
  · exact h
  · cases hd : B.in k with
    | none => exact h
    | some d => exact slots_set h hne (slots_in hd) _
theorem slots_lay (h : Slots s m e B) {k : Int} (hne : k ≠ (s : Int)) (D : Option Dk) : Slots s m e (B.lay k D) := by
  unfold By.lay
  by_cases hk : B.is k
  · rw [if_pos hk]
    split
    · exact h
    · cases D with
      | none => exact h
      | some D => exact slots_set h hne hk _
  · rw [if_neg hk]; exact h
theorem slots_pull (h : Slots s m e B) {k : Int} (hne : k ≠ (s : Int)) : Slots s m e (B.pull k) := by
  unfold By.pull
  cases hd : B.in k with
  | none => exact h
  | some d =>
    have hk := slots_in hd
    have h1 := slots_set h hne hk (some { d with disk := d.disk.crash [] })
    have hk0 := hk.1
    refine ⟨h.n, ⟨h.calm.trip, h.calm.dark⟩, ?_⟩
    show moved (aside (k.toNat * 3)) _ none (s * 3) = e
    unfold moved aside
    rw [if_neg (by omega), if_neg (by omega)]
    exact h1.dev
theorem slots_push (h : Slots s m e B) {k : Int} (hne : k ≠ (s : Int)) : Slots s m e (B.push k) := by
  unfold By.push
  split
  · rename_i hp
    have hk : B.is k := by
      unfold By.pushc at hp
      by_cases hk : B.is k
      · exact hk
      · rw [if_neg hk] at hp; cases hp
    have hk0 := hk.1
    refine ⟨h.n, ⟨h.calm.trip, h.calm.dark⟩, ?_⟩
    show moved (coming (k.toNat * 3)) _ none (s * 3) = e
    unfold moved coming
    rw [if_neg (by omega), if_neg (by omega)]
    exact h.dev
  · exact h
theorem Small.lay {x : Int} (h : B.Small x) (hx : 0 ≤ x) (k : Int) (D : Option Dk) (hD : ∀ d, D = some d → d.cache = []) : (B.lay k D).Small x := by
  unfold By.lay
  split
  · split
    · exact h
    · cases D with
      | none => exact h
      | some D => exact Small.setDev h fun e he => by obtain rfl := (Option.some.inj he).symm; simp only; rw [hD D rfl]; simpa using hx
  · exact h
/-- What slot s answers. -/
structure Said (s : Nat) (size : Int) (c : Int) (l p : List Int) (B : By) : Prop where
  code : B.tcode s = c
  image : B.image s = l
  pending : B.pending s = p
  has : B.has s = decide (0 < size)
  sectors : B.sectors s = size
theorem slots_said {B' : By} (h : Slots s m e B) (h' : Slots s m e B') (hs : s < m) {size c : Int} {l p : List Int} (hd : Said s size c l p B) : Said s size c l p B' := by
  have k1 : B.is s := ⟨by omega, by rw [h.n]; omega⟩
  have k2 : B'.is s := ⟨by omega, by rw [h'.n]; omega⟩
  have e1 : (s : Int).toNat * 3 = s * 3 := by simp
  have i1 : B.in s = e := by unfold By.in; rw [if_pos k1, e1, h.dev]
  have i2 : B'.in s = e := by unfold By.in; rw [if_pos k2, e1, h'.dev]
  obtain ⟨a1, a2, a3, a4, a5⟩ := hd
  refine ⟨?_, ?_, ?_, ?_, ?_⟩
  · rw [← a1]; unfold By.tcode; rw [if_pos k1, if_pos k2, e1, h.dev, h'.dev]
  · rw [← a2]; unfold By.image; rw [i1, i2]
  · rw [← a3]; unfold By.pending; rw [i1, i2]
  · rw [← a4]; unfold By.has; rw [i1, i2]
  · rw [← a5]; unfold By.sectors; rw [i1, i2]
end
/-- The bay behind the first write. -/
theorem slots_start (l : List Int) {s : Nat} {z : Int} (hz : l[s]? = some z) (hok : sizeOk z) (x : List Int) :
    ∃ e c im p, Slots s l.length e ((By.fresh l l.length).op s 4 (fun D => D.write 0 x)) ∧ Said s z c im p ((By.fresh l l.length).op s 4 (fun D => D.write 0 x)) := by
  have hlt : s < l.length := (List.getElem?_eq_some_iff.1 hz).1
  have hk : (By.fresh l l.length).is s := ⟨by omega, by show (s : Int) < l.length; omega⟩
  have hc : (By.fresh l l.length).Calm := ⟨rfl, rfl⟩
  have hi := fresh_slot l hz
  have e1 : (s : Int).toNat * 3 = s * 3 := by simp
  have hdv : (By.fresh l l.length).dev (s * 3) = freshDev z := by
    have := hi
    unfold By.in at this
    rw [if_pos hk, e1] at this
    exact this
  by_cases h0 : z = 0
  · have hd : freshDev z = none := by unfold freshDev; rw [if_pos h0]
    rw [hd] at hi hdv
    have e : (By.fresh l l.length).op s 4 (fun D => D.write 0 x) = (By.fresh l l.length).tick 4 := by
      unfold By.op
      rw [if_pos hk, hc.start, hc.dark, hi]
      rfl
    rw [e]
    have hk' : ((By.fresh l l.length).tick 4).is s := hk
    have hi' : ((By.fresh l l.length).tick 4).in s = none := by unfold By.in; rw [if_pos hk', e1]; exact hdv
    refine ⟨none, _, _, _, ⟨rfl, ⟨by simp [By.tick, By.fresh], rfl⟩, hdv⟩, rfl, rfl, rfl, ?_, ?_⟩
    · unfold By.has; rw [hi']; simp [h0]
    · unfold By.sectors; rw [hi']; exact h0.symm
  · have hz2 : 1 ≤ z ∧ z ≤ 8192 := by
      rcases hok with h | h
      · exact absurd h h0
      · exact h
    obtain ⟨z1, z2⟩ := hz2
    have hd : freshDev z = some ⟨Dk.new z.toNat, false, 0⟩ := by unfold freshDev; rw [if_neg h0]
    rw [hd] at hi hdv
    have e : (By.fresh l l.length).op s 4 (fun D => D.write 0 x) = ((By.fresh l l.length).tick 4).setDev (s * 3) (some ⟨(Dk.new z.toNat).write 0 x, false, 0⟩) := by
      rw [calm_op hc hk (e := ⟨Dk.new z.toNat, false, 0⟩) (by rw [e1]; exact hdv), e1]
      rfl
    rw [e]
    have hk' : (((By.fresh l l.length).tick 4).setDev (s * 3) (some ⟨(Dk.new z.toNat).write 0 x, false, 0⟩)).is s := hk
    have hdv' : (((By.fresh l l.length).tick 4).setDev (s * 3) (some ⟨(Dk.new z.toNat).write 0 x, false, 0⟩)).dev (s * 3) = some ⟨(Dk.new z.toNat).write 0 x, false, 0⟩ := by simp [By.setDev]
    have hi' : (((By.fresh l l.length).tick 4).setDev (s * 3) (some ⟨(Dk.new z.toNat).write 0 x, false, 0⟩)).in s = some ⟨(Dk.new z.toNat).write 0 x, false, 0⟩ := by unfold By.in; rw [if_pos hk', e1]; exact hdv'
    refine ⟨_, _, _, _, ⟨rfl, Calm.tick hc _ _ _, hdv'⟩, rfl, rfl, rfl, ?_, ?_⟩
    · unfold By.has
      rw [hi']
      simp only [Dk.write_failed]
      simp [Dk.new]
      omega
    · unfold By.sectors
      rw [hi']
      simp only [write_las]
      simp [Dk.new]
      omega
set_option maxRecDepth 100000 in
set_option maxHeartbeats 1000000 in
theorem sameInts_loop (w : World) (b1 o1 c1 b2 o2 c2 : Nat) (l1 l2 : List Int) (hlen : l1.length = l2.length) (hne : l1 ≠ []) (hm : l1.length ≤ maxLen) (h1 : w.rangeAt b1 o1 (ints l1)) (h2 : w.rangeAt b2 o2 (ints l2)) :
    Calls Try.prog 50 #[.slice (some ⟨b1, o1, none⟩) l1.length c1, .slice (some ⟨b2, o2, none⟩) l2.length c2] w (Gives fun v w' => v = .bool (decide (l1 = l2)) ∧ Keep NoF w w') := by
  have H1 := Lib.hid h1
  have H2 := Lib.hid h2
  have HL := Lib.hid hlen
  have hpos : 0 < l1.length := List.length_pos_iff.2 hne
  have hle : (l1.length : Int) ≤ 9223372036854775807 := by unfold maxLen at hm; omega
  rw [← hlen]
  clear h1 h2 hlen hne hm
  go_enter Try.func50, Try.ntmps50
  go_wp2
  go_loopw [5] (fun t wr => ∃ i : Nat, i ≤ l1.length ∧ t = .int .i64 i ∧ l1.take i = l2.take i ∧ Keep NoF w wr) (fun t _ => l1.length - (intOf t).toNat)
  case atStart => exact ⟨0, Nat.zero_le _, rfl, by simp, Keep.refl _ _⟩
  case round =>
    obtain ⟨i, hi, rfl, htk, hkeep⟩ := hrel
    by_cases hlt : i < l1.length
    · have hlt2 : i < l2.length := HL.out ▸ hlt
      obtain ⟨x, hx⟩ : ∃ x, l1[i]? = some x := ⟨_, List.getElem?_eq_getElem hlt⟩
      obtain ⟨y, hy⟩ : ∃ y, l2[i]? = some y := ⟨_, List.getElem?_eq_getElem hlt2⟩
      have hc1 : wr.cell? ⟨b1, o1 + i, none⟩ = some (.int .i64 x) := by
        have h := H1.out i (.int .i64 x) (by simp [ints, hx])
        rw [World.cell?_of_block (w := w) (hkeep.block b1 (World.block_lt_of_cell? w _ h) (fun h => h))]; exact h
      have hc2 : wr.cell? ⟨b2, o2 + i, none⟩ = some (.int .i64 y) := by
        have h := H2.out i (.int .i64 y) (by simp [ints, hy])
        rw [World.cell?_of_block (w := w) (hkeep.block b2 (World.block_lt_of_cell? w _ h) (fun h => h))]; exact h
      have HK : Hid (∀ nq, Keep NoF w (wr.drewN nq)) := fun nq => hkeep.trans' (Keep.drewN _ _ _)
      by_cases hxy : x = y
      · have HT : Hid (l1.take (i + 1) = l2.take (i + 1)) := by
          show _ = _
          rw [List.take_add_one, List.take_add_one, htk, hx, hy, hxy]
        subst hxy
        clear hx hy htk hkeep hlt2
        go_wp2
        go_quiet (fail)
        go_wp2
        exact ⟨⟨i + 1, by omega, by go_num, HT.out, HK.out _⟩, by simp [intOf]; omega⟩
      · have hb : (x != y) = true := by simpa using hxy
        have HD : Hid (decide (l1 = l2) = false) := by
          show _ = _
          simp only [decide_eq_false_iff_not]
          rintro rfl
          rw [hx] at hy
          exact hxy (Option.some.inj hy)
        clear hx hy htk hkeep hlt2 hxy
        go_wp2
        go_quiet (fail)
        go_wp2
        go_ret
        exact ⟨_, rfl, by rw [HD.out]; rfl, HK.out _⟩
    · have hie : i = l1.length := by omega
      subst hie
      have HD : Hid (decide (l1 = l2) = true) := by
        show _ = _
        simp only [decide_eq_true_eq]
        rw [List.take_length, HL.out, List.take_length] at htk
        exact htk
      have HK := Lib.hid hkeep
      clear htk hkeep
      go_wp2
      go_ret
      exact ⟨_, rfl, by rw [HD.out]; rfl, HK.out⟩

theorem sameInts_any {w : World} {v1 v2 : Value} {l1 l2 : List Int} (h1 : IntsAt w v1 l1) (h2 : IntsAt w v2 l2) : Calls Try.prog 50 #[v1, v2] w (Gives fun v w' => v = .bool (decide (l1 = l2)) ∧ Keep NoF w w') := by
  obtain ⟨a1, c1, rfl, p1, r1⟩ := h1
  obtain ⟨a2, c2, rfl, p2, r2⟩ := h2
  by_cases hl : l1.length = l2.length
  · by_cases hne : l1 = []
    · subst hne
      have : l2 = [] := List.length_eq_zero_iff.1 hl.symm
      subst this
      clear p1 r1 p2 r2 hl
      go_enter Try.func50, Try.ntmps50
      go_wp2
      refine wp_loop_rounds 1 ?_
      rw [rounds_succ]
      go_wp2
      go_ret
      exact ⟨_, rfl, by simp, Keep.refl _ _⟩
    · have hne2 : l2 ≠ [] := by rintro rfl; exact hne (List.length_eq_zero_iff.1 hl)
      obtain ⟨b1, o1, rfl, s1⟩ := r1 hne
      obtain ⟨b2, o2, rfl, s2⟩ := r2 hne2
      exact sameInts_loop w b1 o1 c1 b2 o2 c2 l1 l2 hl hne p1 s1 s2
  · have HD : Hid (decide (l1 = l2) = false) := by
      show _ = _
      simp only [decide_eq_false_iff_not]
      rintro rfl
      exact hl rfl
    have hne : ((l1.length : Int) != (l2.length : Int)) = true := by simp; omega
    clear p1 r1 p2 r2
    go_enter Try.func50, Try.ntmps50
    go_wp2
    go_ret
    exact ⟨_, rfl, by rw [HD.out]; rfl, Keep.refl _ _⟩
end Go.Proofs.Ytghnbbpoaeheaaa
