/- BayWears, walked. -/
import Derived.Test.YtghnbbpoaeheaaaPair
namespace Go.Proofs.Ytghnbbpoaeheaaa
open Go.RowKit

/-- How far BayWears' loop has come. -/
def WearsAt (W : World) (a b : Nat) (n : Int) (i c : Nat) (w : World) : Prop :=
  ∃ A B, Many W w 2 (pt a b) (two A B) [] ∧ Wearing n c A B ∧ A.Small i ∧ B.Small i

theorem WearsAt.next {W w : World} {a b : Nat} {n : Int} {i c : Nat} {A B : By} {L : List (Value × List Int)} (h : Many W w 2 (pt a b) (two A B) L) (hw : Wearing n c A B) (hA : A.Small (i + 1)) (hB : B.Small (i + 1)) : WearsAt W a b n (i + 1) c w :=
  ⟨A, B, h.less (fun q hq => by cases hq), hw, by simpa using hA, by simpa using hB⟩

theorem fresh2_0 {s : Int} (hs : s ≠ 0) : (By.fresh [s, 2] 2).dev 0 = some ⟨Dk.new s.toNat, false, 0⟩ := by
  simp [By.fresh, freshDev, hs]
theorem fresh2_3 (s : Int) : (By.fresh [s, 2] 2).dev 3 = some ⟨Dk.new 2, false, 0⟩ := by
  simp [By.fresh, freshDev]
theorem fresh2_in {s : Int} (hs : s ≠ 0) : (By.fresh [s, 2] 2).in 0 = some ⟨Dk.new s.toNat, false, 0⟩ := by
  unfold By.in
  rw [if_pos (is_two (show _ = 2 from rfl) (.inl rfl))]
  exact fresh2_0 hs
theorem fresh_calm (l : List Int) (m : Nat) : (By.fresh l m).Calm := ⟨rfl, rfl⟩
theorem wearing_start {s n : Int} (hs : s ≠ 0) (hn : 0 ≤ n) : Wearing n 0 (By.fresh [s, 2] 2) ((By.fresh [s, 2] 2).wear 0 n) ∧ (By.fresh [s, 2] 2).wearc 0 n = 0 := by
  have e : (By.fresh [s, 2] 2).wear 0 n = (By.fresh [s, 2] 2).setDev 0 (some ⟨Dk.new s.toNat, true, n⟩) := by
    unfold By.wear
    rw [if_neg (by omega), fresh2_in hs]
    rfl
  refine ⟨?_, ?_⟩
  · rw [e]
    refine ⟨rfl, rfl, fresh_calm _ _, ⟨rfl, rfl⟩, ⟨rfl, rfl, rfl⟩, ⟨_, fresh2_0 hs, rfl, .inl ⟨hn, by simp [By.setDev]⟩⟩, ⟨_, fresh2_3 s, ?_, rfl⟩⟩
    simp only [By.setDev, put_other _ _ (show (3 : Nat) ≠ 0 by decide)]
    exact fresh2_3 s
  · unfold By.wearc
    rw [if_neg (by omega)]
    unfold By.tcode
    rw [if_pos (is_two (show _ = 2 from rfl) (.inl rfl)), show (0 : Int).toNat * 3 = 0 from rfl, fresh2_0 hs]
theorem wear_two {W w : World} {a b : Nat} {A B : By} (h : Many W w 2 (pt a b) (two A B) []) (n : Int) (hn : n ≤ 9223372036854775807) (hc : B.wearc 0 n = 0) :
    Calls Try.prog 26 #[.pointer (some ⟨b, 0, none⟩), .int .i64 0, .int .i64 n] w (Gives fun v w' => v = .int .u16 0 ∧ Many W w' 2 (pt a b) (two A (B.wear 0 n)) []) :=
  Gives.imp (Many.wear h 1 (by omega) 0 n hn) fun v w' hg => ⟨by have := hg.1; rw [show (two A B 1).wearc 0 n = B.wearc 0 n from rfl, hc] at this; exact this, hg.2.1.two1⟩
theorem counts_two {W w : World} {a b : Nat} {A B : By} {L : List (Value × List Int)} (h : Many W w 2 (pt a b) (two A B) L) :
    Calls Try.prog 29 #[.pointer (some ⟨a, 0, none⟩)] w (Gives fun v w' => v = .agg #[.int .i64 A.cr, .int .i64 A.cw, .int .i64 A.cf] ∧ Many W w' 2 (pt a b) (two A B) L) ∧
    Calls Try.prog 29 #[.pointer (some ⟨b, 0, none⟩)] w (Gives fun v w' => v = .agg #[.int .i64 B.cr, .int .i64 B.cw, .int .i64 B.cf] ∧ Many W w' 2 (pt a b) (two A B) L) :=
  ⟨Gives.imp (Many.counts h 0 (by omega)) fun v w' hg => ⟨hg.1, hg.2.1⟩, Gives.imp (Many.counts h 1 (by omega)) fun v w' hg => ⟨hg.1, hg.2.1⟩⟩

/-- What one round's two calls of plain leave, the operation written out. -/
theorem round_facts {W w : World} {a b : Nat} {A B : By} {g : Nat} {k s n : Int} {ba ka : Option Addr} {bcap kcap : Nat} {bl : List Int} {kl : List (Value × List Bool)}
    (h : Wt W a b A B g ⟨k, s, n, .slice ba bl.length bcap, bl, .slice ka kl.length kcap, kl⟩ [] w) (hA : A.Small 1000000) (hB : B.Small 1000000) (hd : OpAt W ⟨k, s, n, .slice ba bl.length bcap, bl, .slice ka kl.length kcap, kl⟩)
    {A' B' : By} {ca cb : Int} {la lb : List Int} (eA : A.plain ⟨k, s, n, .slice ba bl.length bcap, bl, .slice ka kl.length kcap, kl⟩ = A') (eB : B.plain ⟨k, s, n, .slice ba bl.length bcap, bl, .slice ka kl.length kcap, kl⟩ = B')
    (fA : A.plainc ⟨k, s, n, .slice ba bl.length bcap, bl, .slice ka kl.length kcap, kl⟩ = ca) (fB : B.plainc ⟨k, s, n, .slice ba bl.length bcap, bl, .slice ka kl.length kcap, kl⟩ = cb)
    (gA : A.plainl ⟨k, s, n, .slice ba bl.length bcap, bl, .slice ka kl.length kcap, kl⟩ = la) (gB : B.plainl ⟨k, s, n, .slice ba bl.length bcap, bl, .slice ka kl.length kcap, kl⟩ = lb) :
    Calls Try.prog 28 #[.pointer (some ⟨a, 0, none⟩), .agg #[.int .i64 k, .int .i64 s, .int .i64 n, .slice ba bl.length bcap, .slice ka kl.length kcap]] w (Gives (WtRead W a b A' B g ⟨k, s, n, .slice ba bl.length bcap, bl, .slice ka kl.length kcap, kl⟩ [] ca la)) ∧
    ∀ L wa, Wt W a b A' B g ⟨k, s, n, .slice ba bl.length bcap, bl, .slice ka kl.length kcap, kl⟩ L wa →
      Calls Try.prog 28 #[.pointer (some ⟨b, 0, none⟩), .agg #[.int .i64 k, .int .i64 s, .int .i64 n, .slice ba bl.length bcap, .slice ka kl.length kcap]] wa (Gives (WtRead W a b A' B' g ⟨k, s, n, .slice ba bl.length bcap, bl, .slice ka kl.length kcap, kl⟩ L cb lb)) := by
  subst eA eB fA fB gA gB
  exact ⟨Wt.plainA h hA hd, fun L wa hwa => Wt.plainB hwa hB hd⟩
theorem Wt.cellsX {W w : World} {a b : Nat} {A B : By} {g : Nat} {k s n : Int} {bv kv : Value} {bl : List Int} {kl : List (Value × List Bool)} {L : List (Value × List Int)} (h : Wt W a b A B g ⟨k, s, n, bv, bl, kv, kl⟩ L w) :
    (w.cell? ⟨g, 0, none⟩ = some (.int .i64 k) ∧ w.cell? ⟨g, 1, none⟩ = some (.int .i64 s) ∧ w.cell? ⟨g, 2, none⟩ = some (.int .i64 n)) ∧ w.cell? ⟨g, 3, none⟩ = some bv ∧ w.cell? ⟨g, 4, none⟩ = some kv ∧ g < w.heap.size := h.cells

set_option maxRecDepth 100000 in
set_option maxHeartbeats 2000000 in
theorem wears_any {W : World} {ov : Value} {ops : List OpD} (s n : Int) (hs : inI64 s) (hn : inI64 n) (ho : OpsAt W ov ops) : Calls Try.prog 4 #[.int .i64 s, ov, .int .i64 n] W (Gives fun v w' => v = .bool true ∧ Keep (Old W) W w') := by
  have HM := Lib.hid (much_any (W := W) (sv := .slice none 0 0) (sizes := []) ⟨none, 0, rfl, by simp [maxLen], fun h => absurd rfl h⟩ (by simp [far]) (by simp) ho)
  have HO := Lib.hid ho
  obtain ⟨oa, oc, rfl, -, -, -⟩ := ho
  have HS0 : Hid (Many W W 0 (fun _ => 0) (fun _ => B0) []) := Many.start0 _ _ _
  have HK25 : Hid (∀ w, Calls Try.prog 25 #[] w (Gives fun v w' => v = .bool true ∧ Keep (Old w) w w')) := fun w => known_any w
  by_cases hok : sizeOk s ∧ sizeOk 2
  · by_cases hs0 : s = 0
    · subst hs0
      go_enter Try.func4, Try.ntmps4
      go_wp2_with (first | (go_at_call 23; go_must (refine HM.out.mono ?_); rintro e w1 ⟨v, rfl, c, rfl, hk, hc⟩; have HC := Lib.hid hc; have H1 := Lib.hid (HS0.out.quiet hk); clear hk hc) | (go_at_call 24; refine (new_two_ok H2.out hok).mono ?_; rintro e w3 ⟨v, rfl, b, rfl, hv⟩; have H3 := Lib.hid hv; clear hv) | (go_at_call 24; go_must (refine (new_two_ok H1.out hok).mono ?_); rintro e w2 ⟨v, rfl, a, rfl, hv⟩; have H2 := Lib.hid hv; clear hv) | (go_at_call 25; go_must (refine (HK25.out _).mono ?_); rintro e w4 ⟨v, rfl, rfl, hv⟩; have H4 := Lib.hid (H3.out.past hv); clear hv))
      · go_ret
        exact ⟨_, rfl, rfl, H1.out.old⟩
      · go_ret
        exact ⟨_, rfl, rfl, H4.out.old⟩
    · have hs0b : (s == 0) = false := by simpa using hs0
      by_cases hneg : n < 0
      · have hwc : (By.fresh [s, 2] 2).wearc 0 n = 1 := by unfold By.wearc; rw [if_pos hneg]
        have hwB : (By.fresh [s, 2] 2).wear 0 n = By.fresh [s, 2] 2 := by unfold By.wear; rw [if_pos hneg]
        have hhas : (By.fresh [s, 2] 2).has 0 = true := by unfold By.has; rw [fresh2_in hs0]; rfl
        have HWN : Hid (∀ w a b, Many W w 2 (pt a b) (two (By.fresh [s, 2] 2) (By.fresh [s, 2] 2)) [] → Calls Try.prog 26 #[.pointer (some ⟨b, 0, none⟩), .int .i64 0, .int .i64 n] w (Gives fun v w' => v = .int .u16 1 ∧ Many W w' 2 (pt a b) (two (By.fresh [s, 2] 2) (By.fresh [s, 2] 2)) [])) := fun w a b h =>
          Gives.imp (Many.wear h 1 (by omega) 0 n hn.2) fun v w' hg => ⟨by have := hg.1; rw [show (two (By.fresh [s, 2] 2) (By.fresh [s, 2] 2) 1).wearc 0 n = (By.fresh [s, 2] 2).wearc 0 n from rfl, hwc] at this; exact this, by have := hg.2.1.two1; rw [show (two (By.fresh [s, 2] 2) (By.fresh [s, 2] 2) 1).wear 0 n = (By.fresh [s, 2] 2).wear 0 n from rfl, hwB] at this; exact this⟩
        have HHN : Hid (∀ w a b, Many W w 2 (pt a b) (two (By.fresh [s, 2] 2) (By.fresh [s, 2] 2)) [] → Calls Try.prog 27 #[.pointer (some ⟨b, 0, none⟩), .int .i64 0] w fun e w' => e = .returned (.bool true) ∧ w = w') := fun w a b h => by
          have := Many.has h 1 (by omega) 0
          rw [show (two (By.fresh [s, 2] 2) (By.fresh [s, 2] 2) 1).has 0 = (By.fresh [s, 2] 2).has 0 from rfl, hhas] at this
          exact this
        clear hwc hwB hhas
        go_enter Try.func4, Try.ntmps4
        go_wp2_with (first | (go_at_call 23; go_must (refine HM.out.mono ?_); rintro e w1 ⟨v, rfl, c, rfl, hk, hc⟩; have HC := Lib.hid hc; have H1 := Lib.hid (HS0.out.quiet hk); clear hk hc) | (go_at_call 24; refine (new_two_ok H2.out hok).mono ?_; rintro e w3 ⟨v, rfl, b, rfl, hv⟩; have H3 := Lib.hid hv; clear hv) | (go_at_call 24; go_must (refine (new_two_ok H1.out hok).mono ?_); rintro e w2 ⟨v, rfl, a, rfl, hv⟩; have H2 := Lib.hid hv; clear hv) | (go_at_call 25; go_must (refine (HK25.out _).mono ?_); rintro e w4 ⟨v, rfl, rfl, hv⟩; have H4 := Lib.hid (H3.out.past hv).two01; clear hv) | (go_at_call 26; go_must (refine (HWN.out _ _ _ H4.out).mono ?_); rintro e w5 ⟨v, rfl, rfl, hv⟩; have H5 := Lib.hid hv; clear hv) | (go_at_call 27; go_must (refine (HHN.out _ _ _ H5.out).mono ?_); rintro e w6 ⟨rfl, rfl⟩))
        · go_ret
          exact ⟨_, rfl, rfl, H1.out.old⟩
        · go_ret
          exact ⟨_, rfl, rfl, H5.out.old⟩
      · have HW := Lib.hid (wearing_start hs0 (show 0 ≤ n by omega))
        go_enter Try.func4, Try.ntmps4
        go_wp2_with (first | (go_at_call 23; go_must (refine HM.out.mono ?_); rintro e w1 ⟨v, rfl, c, rfl, hk, hc⟩; have HC := Lib.hid hc; have H1 := Lib.hid (HS0.out.quiet hk); clear hk hc) | (go_at_call 24; refine (new_two_ok H2.out hok).mono ?_; rintro e w3 ⟨v, rfl, b, rfl, hv⟩; have H3 := Lib.hid hv; clear hv) | (go_at_call 24; go_must (refine (new_two_ok H1.out hok).mono ?_); rintro e w2 ⟨v, rfl, a, rfl, hv⟩; have H2 := Lib.hid hv; clear hv) | (go_at_call 25; go_must (refine (HK25.out _).mono ?_); rintro e w4 ⟨v, rfl, rfl, hv⟩; have H4 := Lib.hid (H3.out.past hv).two01; clear hv) | (go_at_call 26; go_must (refine (wear_two H4.out n hn.2 HW.out.2).mono ?_); rintro e w5 ⟨v, rfl, rfl, hv⟩; have H5 := Lib.hid hv; clear hv))
        · go_ret
          exact ⟨_, rfl, rfl, H1.out.old⟩
        · have hlen : ops.length ≤ 100000 := by have := HC.out (by assumption); simpa using this
          clear HC H1 H2 H3 H4 HM HS0 HK25
          go_loopw [12, 13] (fun m t wr => ∃ (i c : Nat), i ≤ ops.length ∧ c ≤ i ∧ t = .int .i64 i ∧ m = .int .i64 c ∧ WearsAt W a b n i c wr) (fun _ t _ => ops.length - (intOf t).toNat)
          case atStart => exact ⟨0, 0, Nat.zero_le _, Nat.le_refl _, rfl, rfl, _, _, H5.out, HW.out.1, fresh_small _ _, Small.wear (fresh_small _ _) _ _⟩
          case round =>
            obtain ⟨i, c, hi, hci, rfl, rfl, A, B, hm, hw, hA, hB⟩ := hrel
            by_cases hlt : i < ops.length
            · obtain ⟨d, hd⟩ : ∃ d, ops[i]? = some d := ⟨_, List.getElem?_eq_getElem hlt⟩
              obtain ⟨bb, o, cap, hv, hda, hdc⟩ := HO.out.get hd
              have hdc := hdc wr hm.old
              simp only [Value.slice.injEq, true_and] at hv
              obtain ⟨rfl, rfl⟩ := hv
              have hA6 := Lib.hid (hA.mono (m' := 1000000) (by omega))
              have hB6 := Lib.hid (hB.mono (m' := 1000000) (by omega))
              have HNX : Hid (∀ w', Keep NoF wr w' → WearsAt W a b n (i + 1) c w') := fun w' hk => ⟨A, B, hm.quiet hk, hw, by simpa using hA.mono (m' := i + 1) (by omega), by simpa using hB.mono (m' := i + 1) (by omega)⟩
              obtain ⟨kind, slot, nn, bv, bl, kv, kl⟩ := d
              obtain ⟨ba, bcap, hbv, -, -, -⟩ := hda.b
              obtain ⟨ka, kcap, hkv, -, -, -⟩ := hda.k
              simp only at hbv hkv
              subst hbv
              subst hkv
              have HW1 : Hid (Wt W a b A B wr.heap.size ⟨kind, slot, nn, .slice ba bl.length bcap, bl, .slice ka kl.length kcap, kl⟩ [] (wr.alloc (.cells #[.int .i64 kind, .int .i64 slot, .int .i64 nn, .slice ba bl.length bcap, .slice ka kl.length kcap] 69))) := wt_start hm ⟨kind, slot, nn, .slice ba bl.length bcap, bl, .slice ka kl.length kcap, kl⟩
              have HW0 : Hid (Wt W a b A B wr.heap.size ⟨kind, 0, nn, .slice ba bl.length bcap, bl, .slice ka kl.length kcap, kl⟩ [] (wr.alloc (.cells #[.int .i64 kind, .int .i64 0, .int .i64 nn, .slice ba bl.length bcap, .slice ka kl.length kcap] 69))) := wt_start hm ⟨kind, 0, nn, .slice ba bl.length bcap, bl, .slice ka kl.length kcap, kl⟩
              obtain ⟨⟨x0, x1, x2⟩, x3, x4⟩ := op_cells hdc
              obtain ⟨hk1, hk2⟩ := hda.kind
              have HD1 := Lib.hid hda
              have HD0 : Hid (OpAt W ⟨kind, 0, nn, .slice ba bl.length bcap, bl, .slice ka kl.length kcap, kl⟩) := hda.zero
              clear hdc hda hd
              by_cases hkd : 1 ≤ kind ∧ kind ≤ 3
              · obtain ⟨hkd1, hkd2⟩ := hkd
                by_cases hsl : slot = 1
                · obtain ⟨p1, p2, p3⟩ := wearing_one hw ⟨kind, slot, nn, .slice ba bl.length bcap, bl, .slice ka kl.length kcap, kl⟩ hsl
                  subst hsl
                  have HE : Hid (∀ w' L, Many W w' 2 (pt a b) (two (A.plain ⟨kind, 1, nn, .slice ba bl.length bcap, bl, .slice ka kl.length kcap, kl⟩) (B.plain ⟨kind, 1, nn, .slice ba bl.length bcap, bl, .slice ka kl.length kcap, kl⟩)) L → WearsAt W a b n (i + 1) c w') := fun w' L h => WearsAt.next h p1 (Small.plain hA _) (Small.plain hB _)
                  generalize eA : A.plain _ = A' at *
                  generalize eB : B.plain _ = B' at *
                  generalize fB : B.plainc _ = cb at *
                  generalize gB : B.plainl _ = lb at *
                  obtain ⟨hpa, hpb⟩ := round_facts HW1.out hA6.out hB6.out HD1.out eA eB p2 fB p3 gB
                  have HPA := Lib.hid hpa
                  have HPB := Lib.hid hpb
                  clear hm hw hA hB HNX HW0 HD0 p1 p2 p3 eA eB fB gB hpa hpb HW1 HD1 hA6 hB6 HO HW H5
                  go_wp2_with (first | (go_at_call 28; refine (HPB.out _ _ HWA.out).mono ?_; rintro e wb ⟨v, rfl, y, yc, rfl, hv⟩; have HWB := Lib.hid hv; obtain ⟨⟨y0, y1, y2⟩, y3, y4, y5⟩ := Wt.cellsX hv; clear hv) | (go_at_call 28; go_must (refine HPA.out.mono ?_); rintro e wa ⟨v, rfl, x, xc, rfl, hv⟩; have HWA := Lib.hid hv; obtain ⟨⟨z0, z1, z2⟩, z3, z4, z5⟩ := Wt.cellsX hv; clear hv) | (go_at_call 19; go_must (refine (Wt.same HWB.out (List.mem_cons_of_mem _ List.mem_cons_self) List.mem_cons_self).mono ?_); rintro e wc ⟨v, rfl, hb, hv⟩; simp only [decide_true] at hb; subst hb; have HWC := Lib.hid hv; obtain ⟨⟨t0, t1, t2⟩, t3, t4, t5⟩ := Wt.cellsX hv; clear hv))
                  exact ⟨⟨i + 1, c, by omega, by omega, by go_num, rfl, HE.out _ _ HWC.out.1⟩, by simp [intOf]; omega⟩
                · have hslb : (slot == 1) = false := by simpa using hsl
                  obtain ⟨p1, p2, p3⟩ := wearing_zero hw ⟨kind, 0, nn, .slice ba bl.length bcap, bl, .slice ka kl.length kcap, kl⟩ rfl
                  have HE : Hid (∀ w' L, Many W w' 2 (pt a b) (two (A.plain ⟨kind, 0, nn, .slice ba bl.length bcap, bl, .slice ka kl.length kcap, kl⟩) (B.plain ⟨kind, 0, nn, .slice ba bl.length bcap, bl, .slice ka kl.length kcap, kl⟩)) L → WearsAt W a b n (i + 1) (c + 1) w') := fun w' L h => WearsAt.next h (by simpa using p1) (Small.plain hA _) (Small.plain hB _)
                  have hc6 : (c : Int) ≤ 1000000 := by omega
                  by_cases hgt : n < (c : Int) + 1
                  · obtain ⟨m1, m2, m3⟩ := p2 hgt
                    generalize eA : A.plain _ = A' at *
                    generalize eB : B.plain _ = B' at *
                    generalize fA : A.plainc _ = ca at *
                    generalize gA : A.plainl _ = la at *
                    obtain ⟨hpa, hpb⟩ := round_facts HW0.out hA6.out hB6.out HD0.out eA eB fA m1 gA m2
                    have HPA := Lib.hid hpa
                    have HPB := Lib.hid hpb
                    have HH : Hid (∀ L w, Wt W a b A' B' wr.heap.size ⟨kind, 0, nn, .slice ba bl.length bcap, bl, .slice ka kl.length kcap, kl⟩ L w → Calls Try.prog 27 #[.pointer (some ⟨b, 0, none⟩), .int .i64 0] w fun e w' => e = .returned (.bool false) ∧ w = w') := fun L w h => by have := Wt.hasB h 0; rw [m3] at this; exact this
                    clear hm hw hA hB HNX HW1 HD1 p1 p2 p3 eA eB fA gA m1 m2 m3 hpa hpb HW0 HD0 hA6 hB6 HO HW H5 hsl
                    go_wp2_with (first | (go_at_call 27; go_must (refine (HH.out _ _ HWB.out).mono ?_); rintro e wd ⟨rfl, rfl⟩) | (go_at_call 28; refine (HPB.out _ _ HWA.out).mono ?_; rintro e wb ⟨v, rfl, y, yc, rfl, hv⟩; have HWB := Lib.hid hv; obtain ⟨⟨y0, y1, y2⟩, y3, y4, y5⟩ := Wt.cellsX hv; clear hv) | (go_at_call 28; go_must (refine HPA.out.mono ?_); rintro e wa ⟨v, rfl, x, xc, rfl, hv⟩; have HWA := Lib.hid hv; obtain ⟨⟨z0, z1, z2⟩, z3, z4, z5⟩ := Wt.cellsX hv; clear hv) | (go_at_call 19; go_must (refine (Wt.same HWB.out (List.mem_cons_of_mem _ List.mem_cons_self) List.mem_cons_self).mono ?_); rintro e wc ⟨v, rfl, hb, hv⟩; simp only [decide_true] at hb; subst hb; have HWC := Lib.hid hv; obtain ⟨⟨t0, t1, t2⟩, t3, t4, t5⟩ := Wt.cellsX hv; clear hv))
                    exact ⟨⟨i + 1, c + 1, by omega, by omega, by go_num, by go_num, HE.out _ _ HWB.out.1⟩, by simp [intOf]; omega⟩
                  · obtain ⟨m1, m2, m3⟩ := p3 (by omega)
                    generalize eA : A.plain _ = A' at *
                    generalize eB : B.plain _ = B' at *
                    generalize fB : B.plainc _ = cb at *
                    generalize gB : B.plainl _ = lb at *
                    obtain ⟨hpa, hpb⟩ := round_facts HW0.out hA6.out hB6.out HD0.out eA eB m1 fB m2 gB
                    have HPA := Lib.hid hpa
                    have HPB := Lib.hid hpb
                    have HH : Hid (∀ L w, Wt W a b A' B' wr.heap.size ⟨kind, 0, nn, .slice ba bl.length bcap, bl, .slice ka kl.length kcap, kl⟩ L w → Calls Try.prog 27 #[.pointer (some ⟨b, 0, none⟩), .int .i64 0] w fun e w' => e = .returned (.bool true) ∧ w = w') := fun L w h => by have := Wt.hasB h 0; rw [m3] at this; exact this
                    clear hm hw hA hB HNX HW1 HD1 p1 p2 p3 eA eB fB gB m1 m2 m3 hpa hpb HW0 HD0 hA6 hB6 HO HW H5 hsl
                    go_wp2_with (first | (go_at_call 27; go_must (refine (HH.out _ _ HWC.out).mono ?_); rintro e wd ⟨rfl, rfl⟩) | (go_at_call 28; refine (HPB.out _ _ HWA.out).mono ?_; rintro e wb ⟨v, rfl, y, yc, rfl, hv⟩; have HWB := Lib.hid hv; obtain ⟨⟨y0, y1, y2⟩, y3, y4, y5⟩ := Wt.cellsX hv; clear hv) | (go_at_call 28; go_must (refine HPA.out.mono ?_); rintro e wa ⟨v, rfl, x, xc, rfl, hv⟩; have HWA := Lib.hid hv; obtain ⟨⟨z0, z1, z2⟩, z3, z4, z5⟩ := Wt.cellsX hv; clear hv) | (go_at_call 19; go_must (refine (Wt.same HWB.out (List.mem_cons_of_mem _ List.mem_cons_self) List.mem_cons_self).mono ?_); rintro e wc ⟨v, rfl, hb, hv⟩; simp only [decide_true] at hb; subst hb; have HWC := Lib.hid hv; obtain ⟨⟨t0, t1, t2⟩, t3, t4, t5⟩ := Wt.cellsX hv; clear hv))
                    exact ⟨⟨i + 1, c + 1, by omega, by omega, by go_num, by go_num, HE.out _ _ HWC.out.1⟩, by simp [intOf]; omega⟩
              · have HNX2 := Lib.hid (HNX.out _ (Keep.alloc NoF wr (.cells #[.int .i64 kind, .int .i64 slot, .int .i64 nn, .slice ba bl.length bcap, .slice ka kl.length kcap] 69)))
                clear hm hw hA hB
                rcases (by omega : kind < 1 ∨ 3 < kind) with hkl | hkl
                · go_wp2
                  refine ⟨⟨i + 1, c, by omega, by omega, by go_num, rfl, HNX2.out⟩, by simp [intOf]; omega⟩
                · have hkl1 : ¬ kind < 1 := by omega
                  go_wp2
                  refine ⟨⟨i + 1, c, by omega, by omega, by go_num, rfl, HNX2.out⟩, by simp [intOf]; omega⟩
            · obtain rfl : i = ops.length := by omega
              have HM2 := Lib.hid hm
              have hcnt := Lib.hid hw.cnt
              have HB1 := Lib.hid (hw.has1)
              obtain ⟨e1, e2, e3⟩ := hw.cnt
              clear hm hA hB hw
              go_wp2_with (first | (go_at_call 29; refine ((counts_two HM3.out).2).mono ?_; rintro e w7 ⟨v, rfl, rfl, hv⟩; have HM4 := Lib.hid hv; clear hv) | (go_at_call 29; go_must (refine ((counts_two HM2.out).1).mono ?_); rintro e w6 ⟨v, rfl, rfl, hv⟩; rw [e1, e2, e3]; have HM3 := Lib.hid hv; clear hv) | (go_at_call 27; go_must (refine (Many.has HM4.out 1 (by omega) 1).mono ?_); rintro e w8 ⟨rfl, rfl⟩))
              go_ret
              exact ⟨_, rfl, by rw [← HB1.out]; rfl, HM4.out.old⟩
  · go_enter Try.func4, Try.ntmps4
    go_wp2_with (first | (go_at_call 23; go_must (refine HM.out.mono ?_); rintro e w1 ⟨v, rfl, c, rfl, hk, hc⟩; have HC := Lib.hid hc; have H1 := Lib.hid (HS0.out.quiet hk); clear hk hc) | (go_at_call 24; refine (new_two_bad H2.out hok).mono ?_; rintro e w3 ⟨v, rfl, rfl, hv⟩; have H3 := Lib.hid hv; clear hv) | (go_at_call 24; go_must (refine (new_two_bad H1.out hok).mono ?_); rintro e w2 ⟨v, rfl, rfl, hv⟩; have H2 := Lib.hid hv; clear hv) | (go_at_call 25; go_must (refine (HK25.out _).mono ?_); rintro e w4 ⟨v, rfl, rfl, hv⟩; have H4 := Lib.hid (H3.out.past hv); clear hv))
    · go_ret
      exact ⟨_, rfl, rfl, H1.out.old⟩
    · go_ret
      exact ⟨_, rfl, rfl, H4.out.old⟩
end Go.Proofs.Ytghnbbpoaeheaaa
