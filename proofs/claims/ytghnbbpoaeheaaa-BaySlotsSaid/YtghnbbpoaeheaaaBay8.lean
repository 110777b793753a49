/- Two lists of bytes held against each other; a script as it lies in memory. -/
import Derived.Test.YtghnbbpoaeheaaaBay7
import Derived.Deep.QuietTactic
namespace Go.Proofs.Ytghnbbpoaeheaaa
open Go.RowKit

set_option maxRecDepth 100000 in
set_option maxHeartbeats 1000000 in
theorem same_loop (w : World) (b1 o1 c1 b2 o2 c2 : Nat) (l1 l2 : List Int) (hlen : l1.length = l2.length) (hne : l1 ≠ []) (hm : l1.length ≤ maxLen) (h1 : w.rangeAt b1 o1 (u8s l1)) (h2 : w.rangeAt b2 o2 (u8s l2)) :
    Calls Try.prog 19 #[.slice (some ⟨b1, o1, none⟩) l1.length c1, .slice (some ⟨b2, o2, none⟩) l2.length c2] w (Gives fun v w' => v = .bool (decide (l1 = l2)) ∧ Keep NoF w w') := by
  have H1 := Lib.hid h1
  have H2 := Lib.hid h2
  have HL := Lib.hid hlen
  have hpos : 0 < l1.length := List.length_pos_iff.2 hne
  have hle : (l1.length : Int) ≤ 9223372036854775807 := by unfold maxLen at hm; omega
  rw [← hlen]
  clear h1 h2 hlen hne hm
  go_enter Try.func19, Try.ntmps19
  go_wp2
  go_loopw [5] (fun t wr => ∃ i : Nat, i ≤ l1.length ∧ t = .int .i64 i ∧ l1.take i = l2.take i ∧ Keep NoF w wr) (fun t _ => l1.length - (intOf t).toNat)
  case atStart => exact ⟨0, Nat.zero_le _, rfl, by simp, Keep.refl _ _⟩
  case round =>
    obtain ⟨i, hi, rfl, htk, hkeep⟩ := hrel
    by_cases hlt : i < l1.length
    · have hlt2 : i < l2.length := HL.out ▸ hlt
      obtain ⟨x, hx⟩ : ∃ x, l1[i]? = some x := ⟨_, List.getElem?_eq_getElem hlt⟩
      obtain ⟨y, hy⟩ : ∃ y, l2[i]? = some y := ⟨_, List.getElem?_eq_getElem hlt2⟩
      have hc1 : wr.cell? ⟨b1, o1 + i, none⟩ = some (.int .u8 x) := by
        have h := H1.out i (.int .u8 x) (by simp [u8s, hx])
        rw [World.cell?_of_block (w := w) (hkeep.block b1 (World.block_lt_of_cell? w _ h) (fun h => h))]; exact h
      have hc2 : wr.cell? ⟨b2, o2 + i, none⟩ = some (.int .u8 y) := by
        have h := H2.out i (.int .u8 y) (by simp [u8s, hy])
        rw [World.cell?_of_block (w := w) (hkeep.block b2 (World.block_lt_of_cell? w _ h) (fun h => h))]; exact h
      have HK : Hid (∀ nq, Keep NoF w (wr.drewN nq)) := fun nq => hkeep.trans' (Keep.drewN _ _ _)
      by_cases hxy : x = y
      · have HT : Hid (l1.take (i + 1) = l2.take (i + 1)) := by
          show _ = _
          rw [List.take_add_one, List.take_add_one, htk, hx, hy, hxy]
        subst hxy
        clear hx hy htk hkeep hlt2
        go_wp2
        go_quiet (fail)
        go_wp2
        exact ⟨⟨i + 1, by omega, by go_num, HT.out, HK.out _⟩, by simp [intOf]; omega⟩
      · have hb : (x != y) = true := by simpa using hxy
        have HD : Hid (decide (l1 = l2) = false) := by
          show _ = _
          simp only [decide_eq_false_iff_not]
          rintro rfl
          rw [hx] at hy
          exact hxy (Option.some.inj hy)
        clear hx hy htk hkeep hlt2 hxy
        go_wp2
        go_quiet (fail)
        go_wp2
        go_ret
        exact ⟨_, rfl, by rw [HD.out]; rfl, HK.out _⟩
    · have hie : i = l1.length := by omega
      subst hie
      have HD : Hid (decide (l1 = l2) = true) := by
        show _ = _
        simp only [decide_eq_true_eq]
        rw [List.take_length, HL.out, List.take_length] at htk
        exact htk
      have HK := Lib.hid hkeep
      clear htk hkeep
      go_wp2
      go_ret
      exact ⟨_, rfl, by rw [HD.out]; rfl, HK.out⟩

theorem same_any {w : World} {v1 v2 : Value} {l1 l2 : List Int} (h1 : BytesAt w v1 l1) (h2 : BytesAt w v2 l2) : Calls Try.prog 19 #[v1, v2] w (Gives fun v w' => v = .bool (decide (l1 = l2)) ∧ Keep NoF w w') := by
  obtain ⟨a1, c1, rfl, p1, q1, r1⟩ := h1
  obtain ⟨a2, c2, rfl, p2, q2, r2⟩ := h2
  by_cases hl : l1.length = l2.length
  · by_cases hne : l1 = []
    · subst hne
      have : l2 = [] := List.length_eq_zero_iff.1 hl.symm
      subst this
      clear p1 q1 r1 p2 q2 r2 hl
      go_enter Try.func19, Try.ntmps19
      go_wp2
      refine wp_loop_rounds 1 ?_
      rw [rounds_succ]
      go_wp2
      go_ret
      exact ⟨_, rfl, by simp, Keep.refl _ _⟩
    · have hne2 : l2 ≠ [] := by rintro rfl; exact hne (List.length_eq_zero_iff.1 hl)
      obtain ⟨b1, o1, rfl, s1⟩ := r1 hne
      obtain ⟨b2, o2, rfl, s2⟩ := r2 hne2
      exact same_loop w b1 o1 c1 b2 o2 c2 l1 l2 hl hne (Nat.le_trans p1 q1) s1 s2
  · have HD : Hid (decide (l1 = l2) = false) := by
      show _ = _
      simp only [decide_eq_false_iff_not]
      rintro rfl
      exact hl rfl
    have hne : ((l1.length : Int) != (l2.length : Int)) = true := by simp; omega
    clear p1 q1 r1 p2 q2 r2
    go_enter Try.func19, Try.ntmps19
    go_wp2
    go_ret
    exact ⟨_, rfl, by rw [HD.out]; rfl, Keep.refl _ _⟩
end Go.Proofs.Ytghnbbpoaeheaaa
