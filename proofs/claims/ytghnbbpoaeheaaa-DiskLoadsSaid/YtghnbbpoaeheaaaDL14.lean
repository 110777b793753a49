/- BayTwo, walked. -/
import Derived.Test.YtghnbbpoaeheaaaDL10
import Derived.Test.YtghnbbpoaeheaaaDL11
import Derived.Test.YtghnbbpoaeheaaaDL13
import Derived.IntWalk
import Derived.StillTailTactics
namespace Go.Proofs.Ytghnbbpoaeheaaa
open Go.RowKit

theorem pull_coming {B : By} (h : B.NoneComing) (k : Int) : (B.pull k).NoneComing := by
  intro j hj
  unfold By.pull
  split
  · exact h j hj
  · show moved (aside (k.toNat * 3)) _ none j = none
    unfold moved aside
    rw [if_neg (by omega), if_neg (by omega)]
    simp only [By.setDev, put_other _ _ (show j ≠ k.toNat * 3 by omega)]
    exact h j hj
theorem Small.pull {B : By} {m : Int} (h : B.Small m) (hm : 0 ≤ m) (k : Int) : (B.pull k).Small m := by
  unfold By.pull
  split
  · exact h
  · rename_i d hd
    have h1 : (B.setDev (k.toNat * 3) (some { d with disk := d.disk.crash [] })).Small m := Small.setDev h fun e he => by obtain rfl := (Option.some.inj he).symm; simpa [Dk.crash, Dk.settle] using hm
    refine ⟨h1.cr, h1.cw, h1.cf, fun j e he => ?_⟩
    simp only [moved] at he
    split at he
    · cases he
    · exact h1.cl _ e he
theorem failed_coming {B : By} (h : B.NoneComing) (k : Int) : (B.failed k).NoneComing := by
  intro j hj
  unfold By.failed
  split
  · exact h j hj
  · simp only [By.setDev, put_other _ _ (show j ≠ k.toNat * 3 by omega)]; exact h j hj
theorem tripped_coming {B : By} (h : B.NoneComing) (n : Int) : (B.tripped n).NoneComing := by
  unfold By.tripped; split
  · exact h
  · split <;> exact h
theorem cut_coming {B : By} (h : B.NoneComing) (kl : List (Value × List Bool)) : (B.cut kl).NoneComing := by
  intro j hj
  show (B.cutTo kl B.n).dev j = none
  rw [cutTo_dev, if_neg (by omega)]
  exact h j hj

/-- A bay as it was made: what its slots answer. -/
theorem fresh_slot (l : List Int) {j : Nat} {s : Int} (hj : l[j]? = some s) : (By.fresh l l.length).in j = freshDev s := by
  have hlt : j < l.length := (List.getElem?_eq_some_iff.1 hj).1
  unfold By.in
  rw [if_pos (show (By.fresh l l.length).is j from ⟨by omega, by show (j : Int) < l.length; omega⟩)]
  show (if _ then _ else _) = _
  rw [show (j : Int).toNat * 3 = j * 3 by simp, if_pos ⟨by omega, by omega⟩, show j * 3 / 3 = j by omega, List.getD_eq_getElem?_getD, hj]
  rfl
theorem fresh_tcode (l : List Int) {j : Nat} {s : Int} (hj : l[j]? = some s) : (By.fresh l l.length).tcode j = if s = 0 then 51 else 0 := by
  have hlt : j < l.length := (List.getElem?_eq_some_iff.1 hj).1
  have hi := fresh_slot l hj
  unfold By.in at hi
  have hk : (By.fresh l l.length).is j := ⟨by omega, by show (j : Int) < l.length; omega⟩
  rw [if_pos hk] at hi
  unfold By.tcode
  rw [if_pos hk, hi]
  unfold freshDev
  by_cases h : s = 0
  · rw [if_pos h, if_pos h]
  · rw [if_neg h, if_neg h]
theorem new_image (s : Nat) : (Dk.new s).image = List.replicate (s * 128) 0 := by
  show (List.replicate s (List.replicate 128 0)).flatten = _
  induction s with
  | zero => rfl
  | succ n ih => rw [List.replicate_succ, List.flatten_cons, ih, List.replicate_append_replicate]; congr 1; omega
theorem fresh_image (l : List Int) {j : Nat} {s : Int} (hj : l[j]? = some s) : (By.fresh l l.length).image j = List.replicate (s.toNat * 128) 0 := by
  unfold By.image
  rw [fresh_slot l hj]
  unfold freshDev
  by_cases h : s = 0
  · rw [if_pos h, h]; rfl
  · rw [if_neg h]; exact new_image _
theorem fresh_has (l : List Int) {j : Nat} {s : Int} (hj : l[j]? = some s) : (By.fresh l l.length).has j = !decide (s = 0) := by
  unfold By.has
  rw [fresh_slot l hj]
  unfold freshDev
  by_cases h : s = 0
  · simp [h]
  · simp [h, Dk.new]

section
variable {W w : World} {a b : Nat} {A B : By} {L : List (Value × List Int)}
theorem failA (h : Many W w 2 (pt a b) (two A B) L) (hs : A.Small 1000000) (k : Int) : Calls Try.prog 43 #[.pointer (some ⟨a, 0, none⟩), .int .i64 k] w (Gives fun v w' => v = .int .u16 (A.tcode k) ∧ Many W w' 2 (pt a b) (two (A.failed k) B) L) :=
  Gives.imp (Many.fail h 0 (by omega) hs k) fun v w' hg => ⟨hg.1, hg.2.1.two0⟩
theorem tripA (h : Many W w 2 (pt a b) (two A B) L) (n : Int) (hn : n ≤ 9223372036854775807) : Calls Try.prog 30 #[.pointer (some ⟨a, 0, none⟩), .int .i64 n] w (Gives fun v w' => v = .int .u16 (A.tripc n) ∧ Many W w' 2 (pt a b) (two (A.tripped n) B) L) :=
  Gives.imp (Many.trip h 0 (by omega) n hn) fun v w' hg => ⟨hg.1, hg.2.1.two0⟩
theorem pullA (h : Many W w 2 (pt a b) (two A B) L) (hs : A.Small 1000000) (k : Int) : Calls Try.prog 44 #[.pointer (some ⟨a, 0, none⟩), .int .i64 k] w (Gives fun v w' => v = .int .u16 (A.tcode k) ∧ Many W w' 2 (pt a b) (two (A.pull k) B) L) := by
  obtain ⟨F, hb, hF, hst⟩ := h.step 0 (by omega)
  exact Gives.imp (pull_any hb k hs.list) fun v w' hg => ⟨hg.1, (hst _ _ hg.2).1.two0⟩
end
/-- How far BayTwo's first loop has come. -/
def TwoAt (W : World) (a b : Nat) (F : By) (i : Nat) (w : World) : Prop := ∃ A, Many W w 2 (pt a b) (two A F) [] ∧ A.Small i ∧ A.NoneComing

set_option maxRecDepth 100000 in
set_option maxHeartbeats 2000000 in
theorem two_any {W : World} {sv ov : Value} {sizes : List Int} {ops : List OpD} (hs : IntsAt W sv sizes) (hsl : sizes.length ≤ far) (hsi : ∀ s ∈ sizes, inI64 s) (ho : OpsAt W ov ops) :
    Calls Try.prog 8 #[sv, ov] W (Gives fun v w' => v = .bool true ∧ Keep (Old W) W w') := by
  have HM := Lib.hid (much_any (W := W) hs hsl hsi ho)
  have HO := Lib.hid ho
  have HSZ := Lib.hid hs
  obtain ⟨oa, oc, rfl, -, -, -⟩ := ho
  obtain ⟨sa, sc, rfl, -, hsr⟩ := hs
  have HS0 : Hid (Many W W 0 (fun _ => 0) (fun _ => B0) []) := Many.start0 _ _ _
  have HK25 : Hid (∀ w, Calls Try.prog 25 #[] w (Gives fun v w' => v = .bool true ∧ Keep (Old w) w w')) := fun w => known_any w
  clear hsi
  by_cases hok : sizesOk sizes
  · have hm17 : sizes.length ≤ 17 := hok.2.1
    have HNG : Hid (∀ (w : World) (m : Nat) (p : Nat → Nat) (Bs : Nat → By), Many W w m p Bs [] → Calls Try.prog 24 #[.slice sa sizes.length sc] w (Gives fun r w' => ∃ b, r = .tuple #[.pointer (some ⟨b, 0, none⟩), .int .u16 0] ∧ Many W w' (m + 1) (put p m b) (put Bs m (By.fresh sizes sizes.length)) [])) := fun w m p Bs h => h.new_ok HSZ.out hok
    obtain ⟨sb, so, rfl, hsr2⟩ := hsr (by rintro rfl; simp [sizesOk] at hok)
    have HSR := Lib.hid hsr2
    have HF : Hid ((By.fresh sizes sizes.length).Small 0 ∧ (By.fresh sizes sizes.length).NoneComing ∧ ((By.fresh sizes sizes.length).cr = 0 ∧ (By.fresh sizes sizes.length).cw = 0 ∧ (By.fresh sizes sizes.length).cf = 0) ∧ (By.fresh sizes sizes.length).dark = false) := ⟨fresh_small _ _, fresh_coming _ _, ⟨rfl, rfl, rfl⟩, rfl⟩
    have HFS : Hid (∀ (j : Nat) (s : Int), sizes[j]? = some s → (By.fresh sizes sizes.length).tcode j = (if s = 0 then 51 else 0) ∧ (By.fresh sizes sizes.length).image j = List.replicate (s.toNat * 128) 0 ∧ (By.fresh sizes sizes.length).has j = !decide (s = 0)) := fun j s hj => ⟨fresh_tcode sizes hj, fresh_image sizes hj, fresh_has sizes hj⟩
    have HOK : Hid (∀ s ∈ sizes, sizeOk s) := hok.2.2
    generalize By.fresh sizes sizes.length = F at *
    clear hsr hsr2 hok
    go_enter Try.func8, Try.ntmps8
    go_wp2_with (first | (go_at_call 23; go_must (refine HM.out.mono ?_); rintro e w1 ⟨v, rfl, c, rfl, hk, hc⟩; have HC := Lib.hid hc; have HK1 := Lib.hid hk; clear hk hc) | (go_at_call 24; refine (HNG.out _ _ _ _ H3.out).mono ?_; rintro e w4 ⟨v, rfl, b, rfl, hv⟩; have H4 := Lib.hid hv; clear hv) | (go_at_call 24; go_must (refine (HNG.out _ _ _ _ (HS0.out.quiet HK1.out)).mono ?_); rintro e w3 ⟨v, rfl, a, rfl, hv⟩; have H3 := Lib.hid hv; clear hv) | (go_at_call 25; go_must (refine (HK25.out _).mono ?_); rintro e w5 ⟨v, rfl, rfl, hv⟩; have H5 := Lib.hid (H4.out.past hv).two01; clear hv))
    · go_ret
      exact ⟨_, rfl, rfl, (HS0.out.quiet HK1.out).old⟩
    · have hlen : ops.length ≤ 100000 := by have := HC.out (by first | assumption | simpa using ‹¬ c = true›); omega
      clear HC HM HS0 HK25 HNG H3 H4 HK1
      go_loopw [9] (fun t wr => ∃ (i : Nat), i ≤ ops.length ∧ t = .int .i64 i ∧ TwoAt W a b F i wr) (fun t _ => ops.length - (intOf t).toNat)
      case atStart => exact ⟨0, Nat.zero_le _, rfl, _, H5.out, HF.out.1, HF.out.2.1⟩
      case round =>
        obtain ⟨i, hi, rfl, A, hm, hA, hcA⟩ := hrel
        by_cases hlt : i < ops.length
        · obtain ⟨d, hd⟩ : ∃ d, ops[i]? = some d := ⟨_, List.getElem?_eq_getElem hlt⟩
          obtain ⟨bb, o, cap, hv, hda, hdc⟩ := HO.out.get hd
          have hdc := hdc wr hm.old
          simp only [Value.slice.injEq, true_and] at hv
          obtain ⟨rfl, rfl⟩ := hv
          have hA6 := hA.mono (m' := 1000000) (by omega)
          have hA1 := hA.mono (m' := i + 1) (by omega)
          obtain ⟨kind, slot, nn, bv, bl, kv, kl2⟩ := d
          obtain ⟨ba, bcap, hbv, -, -, -⟩ := hda.b
          obtain ⟨ka2, kcap, hkv, -, -, -⟩ := hda.k
          simp only at hbv hkv
          subst hbv
          subst hkv
          have HMW : Hid (Many W (wr.alloc (.cells #[.int .i64 kind, .int .i64 slot, .int .i64 nn, .slice ba bl.length bcap, .slice ka2 kl2.length kcap] 69)) 2 (pt a b) (two A F) []) := hm.quiet (Keep.alloc _ _ _)
          obtain ⟨⟨x0, x1, x2⟩, x3, x4⟩ := op_cells hdc
          obtain ⟨hk1, hk2⟩ := hda.kind
          have HPL : Hid (∀ w, Many W w 2 (pt a b) (two A F) [] → Calls Try.prog 28 #[.pointer (some ⟨a, 0, none⟩), .agg #[.int .i64 kind, .int .i64 slot, .int .i64 nn, .slice ba bl.length bcap, .slice ka2 kl2.length kcap]] w (Gives fun v w' => ∃ s c, v = .tuple #[s, .int .u16 c] ∧ TwoAt W a b F (i + 1) w')) := fun w h =>
            Gives.imp (Many.plain h 0 (by omega) hA6 ⟨kind, slot, nn, .slice ba bl.length bcap, bl, .slice ka2 kl2.length kcap, kl2⟩ hda) fun v w' hg => by
              obtain ⟨s, e1, e2, _⟩ := hg
              exact ⟨s, _, e1, _, e2.two0.less (fun q hq => by cases hq), Small.plain hA _, plain_coming hcA _⟩
          have HFL : Hid (∀ w, Many W w 2 (pt a b) (two A F) [] → Calls Try.prog 43 #[.pointer (some ⟨a, 0, none⟩), .int .i64 slot] w (Gives fun v w' => ∃ c, v = .int .u16 c ∧ TwoAt W a b F (i + 1) w')) := fun w h =>
            Gives.imp (failA h hA6 slot) fun v w' hg => ⟨_, hg.1, _, hg.2, Small.failed hA1 (by omega) _, failed_coming hcA _⟩
          have HPU : Hid (∀ w, Many W w 2 (pt a b) (two A F) [] → Calls Try.prog 44 #[.pointer (some ⟨a, 0, none⟩), .int .i64 slot] w (Gives fun v w' => ∃ c, v = .int .u16 c ∧ TwoAt W a b F (i + 1) w')) := fun w h =>
            Gives.imp (pullA h hA6 slot) fun v w' hg => ⟨_, hg.1, _, hg.2, Small.pull hA1 (by omega) _, pull_coming hcA _⟩
          have HTR : Hid (∀ w, Many W w 2 (pt a b) (two A F) [] → Calls Try.prog 30 #[.pointer (some ⟨a, 0, none⟩), .int .i64 nn] w (Gives fun v w' => ∃ c, v = .int .u16 c ∧ TwoAt W a b F (i + 1) w')) := fun w h =>
            Gives.imp (tripA h nn hda.n.2) fun v w' hg => ⟨_, hg.1, _, hg.2, Small.tripped hA1 _, tripped_coming hcA _⟩
          have HCU : Hid (∀ w, Many W w 2 (pt a b) (two A F) [] → Calls Try.prog 33 #[.pointer (some ⟨a, 0, none⟩), .slice ka2 kl2.length kcap] w (Gives fun v w' => v = .tuple #[] ∧ TwoAt W a b F (i + 1) w')) := fun w h =>
            Gives.imp (cutA h hA6 hcA hda.k) fun v w' hg => ⟨hg.1, _, hg.2, Small.cut hA1 (by omega) _, cut_coming hcA _⟩
          have HNX : Hid (TwoAt W a b F (i + 1) (wr.alloc (.cells #[.int .i64 kind, .int .i64 slot, .int .i64 nn, .slice ba bl.length bcap, .slice ka2 kl2.length kcap] 69))) := ⟨A, HMW.out, hA1, hcA⟩
          clear hm hA hcA hda hdc hd hA6 hA1 HO HSZ H5 HF HFS HSR HOK
          have hkc : kind = 1 ∨ kind = 2 ∨ kind = 3 ∨ kind = 4 ∨ kind = 8 ∨ kind = 10 ∨ kind = 11 ∨ (kind ≠ 1 ∧ kind ≠ 2 ∧ kind ≠ 3 ∧ kind ≠ 4 ∧ kind ≠ 8 ∧ kind ≠ 10 ∧ kind ≠ 11) := by omega
          rcases hkc with rfl | rfl | rfl | rfl | rfl | rfl | rfl | ⟨n1, n2, n3, n4, n5, n6, n7⟩
          · go_wp2_with (go_at_call 28; go_must (refine (HPL.out _ HMW.out).mono ?_); rintro e w6 ⟨v, rfl, s, c, rfl, hv⟩; have HV := Lib.hid hv; clear hv)
            exact ⟨⟨i + 1, by omega, by go_num, HV.out⟩, by simp [intOf]; omega⟩
          · go_wp2_with (go_at_call 28; go_must (refine (HPL.out _ HMW.out).mono ?_); rintro e w6 ⟨v, rfl, s, c, rfl, hv⟩; have HV := Lib.hid hv; clear hv)
            exact ⟨⟨i + 1, by omega, by go_num, HV.out⟩, by simp [intOf]; omega⟩
          · go_wp2_with (go_at_call 28; go_must (refine (HPL.out _ HMW.out).mono ?_); rintro e w6 ⟨v, rfl, s, c, rfl, hv⟩; have HV := Lib.hid hv; clear hv)
            exact ⟨⟨i + 1, by omega, by go_num, HV.out⟩, by simp [intOf]; omega⟩
          · go_wp2_with (go_at_call 43; go_must (refine (HFL.out _ HMW.out).mono ?_); rintro e w6 ⟨v, rfl, c, rfl, hv⟩; have HV := Lib.hid hv; clear hv)
            exact ⟨⟨i + 1, by omega, by go_num, HV.out⟩, by simp [intOf]; omega⟩
          · go_wp2_with (go_at_call 44; go_must (refine (HPU.out _ HMW.out).mono ?_); rintro e w6 ⟨v, rfl, c, rfl, hv⟩; have HV := Lib.hid hv; clear hv)
            exact ⟨⟨i + 1, by omega, by go_num, HV.out⟩, by simp [intOf]; omega⟩
          · go_wp2_with (go_at_call 30; go_must (refine (HTR.out _ HMW.out).mono ?_); rintro e w6 ⟨v, rfl, c, rfl, hv⟩; have HV := Lib.hid hv; clear hv)
            exact ⟨⟨i + 1, by omega, by go_num, HV.out⟩, by simp [intOf]; omega⟩
          · go_wp2_with (go_at_call 33; go_must (refine (HCU.out _ HMW.out).mono ?_); rintro e w6 ⟨v, rfl, rfl, hv⟩; have HV := Lib.hid hv; clear hv)
            exact ⟨⟨i + 1, by omega, by go_num, HV.out⟩, by simp [intOf]; omega⟩
          · have m1 : (kind == 1) = false := by simpa using n1
            have m2 : (kind == 2) = false := by simpa using n2
            have m3 : (kind == 3) = false := by simpa using n3
            have m4 : (kind == 4) = false := by simpa using n4
            have m5 : (kind == 8) = false := by simpa using n5
            have m6 : (kind == 10) = false := by simpa using n6
            have m7 : (kind == 11) = false := by simpa using n7
            go_wp2
            exact ⟨⟨i + 1, by omega, by go_num, HNX.out⟩, by simp [intOf]; omega⟩
        · obtain rfl : i = ops.length := by omega
          have HM0 := Lib.hid hm
          have HCB : Hid (∀ w, Many W w 2 (pt a b) (two A F) [] → Calls Try.prog 29 #[.pointer (some ⟨b, 0, none⟩)] w (Gives fun v w' => v = .agg #[.int .i64 0, .int .i64 0, .int .i64 0] ∧ Many W w' 2 (pt a b) (two A F) [])) := fun w h => by
            have := (countsAB h).2
            rw [HF.out.2.2.1.1, HF.out.2.2.1.2.1, HF.out.2.2.1.2.2] at this
            exact this
          have HDK : Hid (∀ w, Many W w 2 (pt a b) (two A F) [] → Calls Try.prog 31 #[.pointer (some ⟨b, 0, none⟩)] w fun e w' => e = .returned (.bool false) ∧ w = w') := fun w h => by
            have := Many.dark h 1 (by omega)
            rw [show (two A F 1).dark = false from HF.out.2.2.2] at this
            exact this
          have HIM : Hid (∀ (w : World) (j : Nat) (s : Int), sizes[j]? = some s → Many W w 2 (pt a b) (two A F) [] → Calls Try.prog 34 #[.pointer (some ⟨b, 0, none⟩), .int .i64 j] w (Gives fun v w' => ∃ x cap, v = .tuple #[.slice x (s.toNat * 128) cap, .int .u16 (if s = 0 then 51 else 0)] ∧ Many W w' 2 (pt a b) (two A F) [(.slice x (s.toNat * 128) cap, List.replicate (s.toNat * 128) 0)])) := fun w j s hj h => by
            have := imageB h j
            obtain ⟨e1, e2, _⟩ := HFS.out j s hj
            rw [e1, e2] at this
            refine Gives.imp this fun v w' hg => ?_
            obtain ⟨x, cap, h1, h2⟩ := hg
            rw [List.length_replicate] at h1 h2
            exact ⟨x, cap, h1, h2⟩
          have HHS : Hid (∀ (w : World) (j : Nat) (s : Int) (L : List (Value × List Int)), sizes[j]? = some s → Many W w 2 (pt a b) (two A F) L → Calls Try.prog 27 #[.pointer (some ⟨b, 0, none⟩), .int .i64 j] w fun e w' => e = .returned (.bool (!decide (s = 0))) ∧ w = w') := fun w j s L hj h => by
            have := Many.has h 1 (by omega) j
            rw [show (two A F 1).has j = F.has j from rfl, (HFS.out j s hj).2.2] at this
            exact this
          clear hm hA hcA HO HSZ H5 HF HFS hlt
          go_wp2_with (first | (go_at_call 29; go_must (refine (HCB.out _ HM0.out).mono ?_); rintro e w6 ⟨v, rfl, rfl, hv⟩; have HM1 := Lib.hid hv; clear hv) | (go_at_call 31; go_must (refine (HDK.out _ HM1.out).mono ?_); rintro e wd ⟨rfl, rfl⟩))
          go_loopw [11] (fun t wr => ∃ (j : Nat), j ≤ sizes.length ∧ t = .int .i64 j ∧ Many W wr 2 (pt a b) (two A F) []) (fun t _ => sizes.length - (intOf t).toNat)
          case atStart => exact ⟨0, Nat.zero_le _, rfl, HM1.out⟩
          case round =>
            obtain ⟨j, hj, rfl, hmj⟩ := hrel
            have HMJ := Lib.hid hmj
            clear hmj
            by_cases hlt : j < sizes.length
            · obtain ⟨s, hsj⟩ : ∃ s, sizes[j]? = some s := ⟨_, List.getElem?_eq_getElem hlt⟩
              have hok := HOK.out s (List.mem_of_getElem? hsj)
              have HCE : Hid (∀ w', Keep (Old W) W w' → w'.cell? ⟨sb, so + j, none⟩ = some (.int .i64 s)) := fun w' hk => hk.old (HSR.out j _ (by simp [ints, hsj]))
              have HI := Lib.hid (HIM.out wr j s hsj HMJ.out)
              have HH := Lib.hid (fun w L h => HHS.out w j s L hsj h)
              clear hsj
              rcases hok with rfl | ⟨hs1, hs2⟩
              · rw [if_pos rfl] at HI
                simp only [Int.toNat_zero, Nat.zero_mul, List.replicate_zero] at HI
                go_wp2_with (go_at_call 34; go_must (refine HI.out.mono ?_); rintro e w7 ⟨v, rfl, x, cap, rfl, hv⟩; have HV := Lib.hid hv; clear hv)
                have q0 := HCE.out _ HV.out.old
                have HH7 : ∀ nq, Calls Try.prog 27 #[.pointer (some ⟨b, 0, none⟩), .int .i64 j] (w7.drewN nq) fun e w' => e = .returned (.bool false) ∧ w' = w7.drewN nq := fun nq => by
                  have := (HH.out _ _ (HV.out.quiet (Keep.drewN NoF w7 nq))).mono fun e w' hg => And.intro hg.1 hg.2.symm
                  simpa using this
                refine wp_loop_rounds 1 ?_
                rw [rounds_succ]
                go_wp2
                go_quiet ((go_at_call 27; exact Calls.quiet_of_same (HH7 _)))
                go_wp2
                exact ⟨⟨j + 1, by omega, by go_num, (HV.out.quiet (Keep.drewN _ _ _)).less (fun q hq => by cases hq)⟩, by simp [intOf]; omega⟩
              · have hs0 : ¬ s = 0 := by omega
                rw [if_neg hs0] at HI
                have hn : ((s.toNat * 128 : Nat) : Int) = 128 * s := by omega
                have hsp : decide (0 < s) = true := by simp; omega
                have hwr : IntKind.i64.wrap (128 * s) = 128 * s := IntWalk.i64_in _ (by omega)
                generalize s.toNat * 128 = n at *
                have hnn : ((n : Int) != 128 * s) = false := by rw [hn]; simp
                go_wp2_with (go_at_call 34; go_must (refine HI.out.mono ?_); rintro e w7 ⟨v, rfl, x, cap, rfl, hv⟩; have HV := Lib.hid hv; clear hv)
                have q0 := HCE.out _ HV.out.old
                have HH7 : ∀ nq, Calls Try.prog 27 #[.pointer (some ⟨b, 0, none⟩), .int .i64 j] (w7.drewN nq) fun e w' => e = .returned (.bool true) ∧ w' = w7.drewN nq := fun nq => by
                  have := (HH.out _ _ (HV.out.quiet (Keep.drewN NoF w7 nq))).mono fun e w' hg => And.intro hg.1 hg.2.symm
                  rw [show (!decide (s = 0)) = true by simp; omega] at this
                  exact this
                have HBY := Lib.hid (HV.out.bytes List.mem_cons_self)
                go_loopw [14] (fun t wr => ∃ (k : Nat), k ≤ n ∧ t = .int .i64 k ∧ w7 = wr) (fun t _ => n - (intOf t).toNat)
                case atStart => exact ⟨0, Nat.zero_le _, rfl, rfl⟩
                case round =>
                  obtain ⟨k, hk, rfl, rfl⟩ := hrel
                  by_cases hkn : k < n
                  · obtain ⟨x', cap', hv, _, _, h3⟩ := HBY.out
                    simp only [List.length_replicate, Value.slice.injEq, true_and] at hv
                    obtain ⟨rfl, rfl⟩ := hv
                    obtain ⟨b8, o8, rfl, hr8⟩ := h3 (by intro h; have := congrArg List.length h; simp at this; omega)
                    have hc8 : w7.cell? ⟨b8, o8 + k, none⟩ = some (.int .u8 0) := hr8 k _ (by simp [u8s, hkn])
                    clear hr8 h3
                    go_wp2
                    exact ⟨⟨k + 1, by omega, by go_num, trivial⟩, by simp [intOf]; omega⟩
                  · have hkn2 : k = n := by omega
                    subst hkn2
                    go_wp2
                    go_quiet ((go_at_call 27; exact Calls.quiet_of_same (HH7 _)))
                    go_wp2
                    exact ⟨⟨j + 1, by omega, by go_num, (HV.out.quiet (Keep.drewN _ _ _)).less (fun q hq => by cases hq)⟩, by simp [intOf]; omega⟩
            · go_wp2
              go_ret
              exact ⟨_, rfl, rfl, HMJ.out.old⟩
  · have hbc : (badCode sizes != 0) = true := by unfold badCode; split <;> rfl
    have HNB : Hid (∀ w, Many W w 0 (fun _ => 0) (fun _ => B0) [] → Calls Try.prog 24 #[.slice sa sizes.length sc] w (Gives fun r w' => r = .tuple #[.pointer none, .int .u16 (badCode sizes)] ∧ Many W w' 0 (fun _ => 0) (fun _ => B0) [])) := fun w h => h.new_bad HSZ.out hok
    generalize badCode sizes = bc at *
    clear hsr
    go_enter Try.func8, Try.ntmps8
    go_wp2_with (first | (go_at_call 23; go_must (refine HM.out.mono ?_); rintro e w1 ⟨v, rfl, c, rfl, hk, hc⟩; have HC := Lib.hid hc; have HK1 := Lib.hid hk; clear hk hc) | (go_at_call 24; refine (HNB.out _ H3.out).mono ?_; rintro e w4 ⟨v, rfl, rfl, hv⟩; have H4 := Lib.hid hv; clear hv) | (go_at_call 24; go_must (refine (HNB.out _ (HS0.out.quiet HK1.out)).mono ?_); rintro e w3 ⟨v, rfl, rfl, hv⟩; have H3 := Lib.hid hv; clear hv) | (go_at_call 25; go_must (refine (HK25.out _).mono ?_); rintro e w5 ⟨v, rfl, rfl, hv⟩; have H5 := Lib.hid (H4.out.past hv); clear hv))
    · go_ret
      exact ⟨_, rfl, rfl, (HS0.out.quiet HK1.out).old⟩
    · go_ret
      exact ⟨_, rfl, rfl, H5.out.old⟩
end Go.Proofs.Ytghnbbpoaeheaaa

/- BayAway, walked. -/
namespace Go.Proofs.Ytghnbbpoaeheaaa
open Go.RowKit

theorem hvF_old {W : World} {F : Nat → Prop} {v : Value} {l : List Int} (h : BytesAt W v l) (hF : ∀ x, F x → W.heap.size ≤ x) : l ≠ [] → ∀ a n c, v = .slice (some a) n c → ¬ F a.block := fun hne a n c hva hf => by
  obtain ⟨a', cap, hv, h1, h2, h3⟩ := h
  obtain ⟨bb, o, ha, hr⟩ := h3 hne
  rw [hva] at hv
  simp at hv
  obtain ⟨x, hx⟩ := List.exists_mem_of_ne_nil _ hne
  obtain ⟨j, hj, rfl⟩ := List.mem_iff_getElem.1 hx
  have hc := hr j (.int .u8 l[j]) (by simp [u8s, hj])
  have hlt := World.block_lt_of_cell? W _ hc
  have hge := hF _ hf
  have : a = ⟨bb, o, none⟩ := by rw [ha] at hv; exact Option.some.inj hv.1
  subst this
  exact absurd hlt (by simpa using hge)

/-- One bay and the bytes that the call holds. -/
def Sole (W : World) (b : Nat) (B : By) (L : List (Value × List Int)) (w : World) : Prop := Many W w 1 (fun _ => b) (fun _ => B) L
section
variable {W w : World} {b : Nat} {B : By} {L : List (Value × List Int)}
theorem Sole.writeArg (h : Sole W b B L w) (hs : B.Small 1000000) (k at_ : Int) {v : Value} {xs : List Int} (hv : BytesAt W v xs) : Calls Try.prog 41 #[.pointer (some ⟨b, 0, none⟩), .int .i64 k, .int .i64 at_, v] w (Gives fun v w' => v = .int .u16 (B.opcode k (fun D => D.wcode at_ xs.length)) ∧ Sole W b (B.op k 4 (fun D => D.write at_ xs)) L w') := by
  have ho := Many.old h
  obtain ⟨F, hb, hF, hst⟩ := Many.step h 0 (by omega)
  exact Gives.imp (bwrite_any hb k at_ v xs (hv.old ho) (hvF_old hv hF) hs.cw hs.list) fun v w' hg => ⟨hg.1, (hst _ _ hg.2).1.one⟩
theorem Sole.flush (h : Sole W b B L w) (hs : B.Small 1000000) (k : Int) : Calls Try.prog 42 #[.pointer (some ⟨b, 0, none⟩), .int .i64 k] w (Gives fun v w' => v = .int .u16 (B.opcode k Dk.fcode) ∧ Sole W b (B.op k 5 Dk.flush) L w') :=
  Gives.imp (Many.flush h 0 (by omega) hs k) fun v w' hg => ⟨hg.1, hg.2.1.one⟩
theorem Sole.image (h : Sole W b B L w) (k : Int) {c : Int} {l : List Int} (hc : B.tcode k = c) (hl : B.image k = l) : Calls Try.prog 34 #[.pointer (some ⟨b, 0, none⟩), .int .i64 k] w (Gives fun v w' => ∃ x cap, v = .tuple #[.slice x l.length cap, .int .u16 c] ∧ Sole W b B ((.slice x l.length cap, l) :: L) w') := by
  subst hc hl
  exact Gives.imp (Many.image h 0 (by omega) k) fun v w' hg => by
    obtain ⟨s, h1, h2, _⟩ := hg
    obtain ⟨x, cap, rfl⟩ := own_form (h2.own List.mem_cons_self)
    exact ⟨x, cap, h1, h2⟩
theorem Sole.pull (h : Sole W b B L w) (hs : B.Small 1000000) (k : Int) : Calls Try.prog 44 #[.pointer (some ⟨b, 0, none⟩), .int .i64 k] w (Gives fun v w' => v = .int .u16 (B.tcode k) ∧ Sole W b (B.pull k) L w') := by
  obtain ⟨F, hb, hF, hst⟩ := Many.step h 0 (by omega)
  exact Gives.imp (pull_any hb k hs.list) fun v w' hg => ⟨hg.1, (hst _ _ hg.2).1.one⟩
theorem Sole.push (h : Sole W b B L w) (k : Int) : Calls Try.prog 46 #[.pointer (some ⟨b, 0, none⟩), .int .i64 k] w (Gives fun v w' => v = .int .u16 (B.pushc k) ∧ Sole W b (B.push k) L w') := by
  obtain ⟨F, hb, hF, hst⟩ := Many.step h 0 (by omega)
  exact Gives.imp (push_any hb k) fun v w' hg => ⟨hg.1, (hst _ _ hg.2).1.one⟩
theorem Sole.has (h : Sole W b B L w) (k : Int) : Calls Try.prog 27 #[.pointer (some ⟨b, 0, none⟩), .int .i64 k] w fun e w' => e = .returned (.bool (B.has k)) ∧ w = w' := Many.has h 0 (by omega) k
theorem Sole.sectors (h : Sole W b B L w) (k : Int) : Calls Try.prog 45 #[.pointer (some ⟨b, 0, none⟩), .int .i64 k] w fun e w' => e = .returned (.int .i64 (B.sectors k)) ∧ w = w' := by
  obtain ⟨F, hb, hF, hst⟩ := Many.step h 0 (by omega)
  exact bsectors_any hb k
theorem Sole.read (h : Sole W b B L w) (hs : B.Small 1000000) (k at_ : Int) : Calls Try.prog 47 #[.pointer (some ⟨b, 0, none⟩), .int .i64 k, .int .i64 at_] w (Gives fun v w' => ∃ s, v = .tuple #[s, .int .u16 (B.opcode k (fun D => D.code at_))] ∧ Sole W b (B.op k 3 id) L w') :=
  Gives.imp (Many.read h 0 (by omega) hs k at_) fun v w' hg => by
    obtain ⟨s, h1, h2, _⟩ := hg
    exact ⟨s, h1, (h2.less fun q hq => List.mem_cons_of_mem _ hq).one⟩
theorem Sole.pending (h : Sole W b B L w) (hs : B.Small 1000000) (k : Int) : Calls Try.prog 40 #[.pointer (some ⟨b, 0, none⟩), .int .i64 k] w (Gives fun v w' => ∃ x cap, v = .slice x (B.pending k).length cap ∧ Sole W b B L w') := by
  obtain ⟨F, hb, hF, hst⟩ := Many.step h 0 (by omega)
  refine Gives.imp (bpending_any hb k (fun d hd => by have := Small.of_in hs hd; omega)) fun v w' hg => ?_
  obtain ⟨x, cap, hx⟩ := own_form hg.1
  exact ⟨x, cap, by simpa [ints] using hx, h.quiet hg.2⟩
theorem Sole.cut (h : Sole W b B L w) (hs : B.Small 1000000) {a : Option Addr} {c : Nat} {l : List Bool} (hk : BoolsAt W (.slice a l.length c) l) :
    Calls Try.prog 33 #[.pointer (some ⟨b, 0, none⟩), .slice (some ⟨w.heap.size, 0, none⟩) 2 2] (w.alloc (.cells #[.slice a l.length c, .slice a l.length c] 57)) (Gives fun v w' => v = .tuple #[] ∧ Sole W b (B.cutg [(.slice a l.length c, l), (.slice a l.length c, l)]) L w') := by
  have hW : Keep (Old W) W (w.alloc (.cells #[.slice a l.length c, .slice a l.length c] 57)) := (Many.old h).ofNoF (Keep.alloc _ _ _)
  have h2 : Many W (w.alloc (.cells #[.slice a l.length c, .slice a l.length c] 57)) 1 (fun _ => b) (fun _ => B) L := Many.quiet h (Keep.alloc _ _ _)
  obtain ⟨F, hb, hF, hst⟩ := Many.step h2 0 (by omega)
  refine Gives.imp (cutg_core hb (kc := 2) (kl := [(.slice a l.length c, l), (.slice a l.length c, l)]) (by simp [far]) (fun wr F1 hk1 hF1 i hi => ?_) hs) fun v w' hg => ⟨hg.1, (hst _ _ hg.2).1.one⟩
  have hnew := heap_alloc_new w (.cells #[.slice a l.length c, .slice a l.length c] 57)
  have hrow := hk1.at hnew (hb.apart_of_type hnew (by decide))
  have e : keepsFor [(Value.slice a l.length c, l), (Value.slice a l.length c, l)] i = l := by
    have hi' : i < 2 := hi
    rcases (by omega : i = 0 ∨ i = 1) with rfl | rfl <;> rfl
  rw [e]
  refine ⟨w.heap.size, 0, a, c, rfl, cell_at hrow (0 + i) ?_, hk.old (hW.trans' (hk1.mono fun x _ hx => hF x hx)), fun a' n c' he hne hf => ?_⟩
  · have hi' : i < 2 := hi
    rcases (by omega : i = 0 ∨ i = 1) with rfl | rfl <;> rfl
  · obtain ⟨a0, c0, hv, _, h3⟩ := hk
    obtain ⟨b2, o2, rfl, hr2⟩ := h3 hne
    simp only [Value.slice.injEq] at hv he
    obtain ⟨y, hy⟩ := List.exists_mem_of_ne_nil _ hne
    obtain ⟨j, hj, rfl⟩ := List.mem_iff_getElem.1 hy
    have hlt := World.block_lt_of_cell? W ⟨b2, o2 + j, none⟩ (hr2 j (.bool l[j]) (by simp [hj]))
    have e1 : a' = ⟨b2, o2, none⟩ := by
      have := he.1.symm.trans hv.1
      exact Option.some.inj this
    subst e1
    have hsz := hW.size
    rcases hF1 _ hf with hx | hx
    · have := hF _ hx; simp only at this hlt; omega
    · simp only at hx hlt; omega
end

theorem sole_new {W w : World} (h : Many W w 0 (fun _ => 0) (fun _ => B0) []) {x y : Int} (hok : sizeOk x ∧ sizeOk y) :
    Calls Try.prog 24 #[.slice (some ⟨w.heap.size, 0, none⟩) 2 2] (w.alloc (.cells #[.int .i64 x, .int .i64 y] 3)) (Gives fun r w' => ∃ b, r = .tuple #[.pointer (some ⟨b, 0, none⟩), .int .u16 0] ∧ Sole W b (By.fresh [x, y] 2) [] w') :=
  Gives.imp (new_two_ok h hok) fun v w' hg => by
    obtain ⟨b, h1, F, k1, k2, k3, k4, k5⟩ := hg
    refine ⟨b, h1, F, fun i hi => ?_, k2, k3, k4, k5⟩
    have := k1 i hi
    obtain rfl : i = 0 := by omega
    exact this
theorem away_start {s : Int} (hs : s ≠ 0) : ∃ fl, Away fl (By.fresh [s, 1] 2) :=
  ⟨_, rfl, ⟨rfl, rfl⟩, ⟨Dk.new s.toNat, by simp [By.fresh, freshDev, hs], rfl, rfl⟩, by simp [By.fresh], by simp [By.fresh], by simp [By.fresh]⟩
theorem Small.push {B : By} {m : Int} (h : B.Small m) (k : Int) : (B.push k).Small m := by
  unfold By.push
  split
  · refine ⟨h.cr, h.cw, h.cf, fun j e he => ?_⟩
    simp only [moved] at he
    split at he
    · cases he
    · exact h.cl _ e he
  · exact h
/-- How far BayAway's loop has come. -/
def AwayAt (W : World) (b : Nat) (fl : List Int) (x : Option Addr) (cap i : Nat) (w : World) : Prop := ∃ B, Sole W b B [(.slice x fl.length cap, fl)] w ∧ Away fl B ∧ B.Small (2 * i)

set_option maxRecDepth 100000 in
set_option maxHeartbeats 2000000 in
theorem away_any {W : World} {ov : Value} {ops : List OpD} {a : Option Addr} {kc : Nat} {l : List Bool} (s n : Int) (hs : inI64 s) (hn : inI64 n) (ho : OpsAt W ov ops) (hk : BoolsAt W (.slice a l.length kc) l) (hl : l.length ≤ far) :
    Calls Try.prog 9 #[.int .i64 s, ov, .int .i64 n, .slice a l.length kc] W (Gives fun v w' => v = .bool true ∧ Keep (Old W) W w') := by
  have HM := Lib.hid (much_any (W := W) (sv := .slice none 0 0) (sizes := []) ⟨none, 0, rfl, by simp [maxLen], fun h => absurd rfl h⟩ (by simp [far]) (by simp) ho)
  have HO := Lib.hid ho
  have HKB := Lib.hid hk
  obtain ⟨oa, oc, rfl, -, -, -⟩ := ho
  unfold far at hl
  have HS0 : Hid (Many W W 0 (fun _ => 0) (fun _ => B0) []) := Many.start0 _ _ _
  have HK25 : Hid (∀ w, Calls Try.prog 25 #[] w (Gives fun v w' => v = .bool true ∧ Keep (Old w) w w')) := fun w => known_any w
  clear hk
  by_cases hbig : 100000 < l.length
  · go_enter Try.func9, Try.ntmps9
    go_wp2_with (go_at_call 23; go_must (refine HM.out.mono ?_); rintro e w1 ⟨v, rfl, c, rfl, hk, hc⟩; have HK1 := Lib.hid hk; clear hk hc)
    all_goals go_ret
    all_goals exact ⟨_, rfl, rfl, (HS0.out.quiet HK1.out).old⟩
  · by_cases hok : sizeOk s ∧ sizeOk 1
    · by_cases hs0 : s = 0
      · subst hs0
        go_enter Try.func9, Try.ntmps9
        go_wp2_with (first | (go_at_call 23; go_must (refine HM.out.mono ?_); rintro e w1 ⟨v, rfl, c, rfl, hk, hc⟩; have HK1 := Lib.hid hk; clear hk hc) | (go_at_call 24; go_must (refine (sole_new (HS0.out.quiet HK1.out) hok).mono ?_); rintro e w2 ⟨v, rfl, b, rfl, hv⟩; have H2 := Lib.hid hv; clear hv) | (go_at_call 25; go_must (refine (HK25.out _).mono ?_); rintro e w3 ⟨v, rfl, rfl, hv⟩; have H3 := Lib.hid (Many.past H2.out hv); clear hv))
        · go_ret
          exact ⟨_, rfl, rfl, (HS0.out.quiet HK1.out).old⟩
        · go_ret
          exact ⟨_, rfl, rfl, H3.out.old⟩
      · have hs0b : (s == 0) = false := by simpa using hs0
        obtain ⟨fl0, haw⟩ := away_start hs0
        have HIM : Hid (∀ w b, Sole W b (By.fresh [s, 1] 2) [] w → Calls Try.prog 34 #[.pointer (some ⟨b, 0, none⟩), .int .i64 0] w (Gives fun v w' => ∃ x cap, v = .tuple #[.slice x fl0.length cap, .int .u16 0] ∧ AwayAt W b fl0 x cap 0 w')) := fun w b h =>
          Gives.imp (Sole.image h 0 (away_image haw).2.1 (away_image haw).1) fun v w' hg => by
            obtain ⟨x, cap, e1, e2⟩ := hg
            exact ⟨x, cap, e1, _, e2, haw, fresh_small _ _⟩
        clear haw
        go_enter Try.func9, Try.ntmps9
        go_wp2_with (first | (go_at_call 23; go_must (refine HM.out.mono ?_); rintro e w1 ⟨v, rfl, c, rfl, hk, hc⟩; have HC := Lib.hid hc; have HK1 := Lib.hid hk; clear hk hc) | (go_at_call 24; go_must (refine (sole_new (HS0.out.quiet HK1.out) hok).mono ?_); rintro e w2 ⟨v, rfl, b, rfl, hv⟩; have H2 := Lib.hid hv; clear hv) | (go_at_call 25; go_must (refine (HK25.out _).mono ?_); rintro e w3 ⟨v, rfl, rfl, hv⟩; have H3 : Hid (Sole W b (By.fresh [s, 1] 2) [] w3) := Many.past H2.out hv; clear hv) | (go_at_call 34; go_must (refine (HIM.out _ _ H3.out).mono ?_); rintro e w4 ⟨v, rfl, x, cap, rfl, hv⟩; have H4 := Lib.hid hv; clear hv))
        · go_ret
          exact ⟨_, rfl, rfl, (HS0.out.quiet HK1.out).old⟩
        · have hlen : ops.length ≤ 100000 := by have := HC.out (by first | assumption | simpa using ‹¬ c = true›); simpa using this
          clear HC HM HS0 HK25 HIM H2 H3 HK1
          go_loopw [11, 12, 13] (fun f g t wr => ∃ (i : Nat) (fl : List Int) (x : Option Addr) (cap : Nat), i ≤ ops.length ∧ t = .int .i64 i ∧ f = .slice x fl.length cap ∧ g = .int .u16 0 ∧ AwayAt W b fl x cap i wr) (fun _ _ t _ => ops.length - (intOf t).toNat)
          case atStart => exact ⟨0, fl0, x, cap, Nat.zero_le _, rfl, rfl, rfl, H4.out⟩
          case round =>
            obtain ⟨i, fl, x, cap, hi, rfl, rfl, rfl, B, hm, haw, hB⟩ := hrel
            clear H4
            by_cases hlt : i < ops.length
            · obtain ⟨d, hd⟩ : ∃ d, ops[i]? = some d := ⟨_, List.getElem?_eq_getElem hlt⟩
              obtain ⟨bb, o, cap', hv, hda, hdc⟩ := HO.out.get hd
              have hdcw := hdc wr (Many.old hm)
              simp only [Value.slice.injEq, true_and] at hv
              obtain ⟨rfl, rfl⟩ := hv
              have hB6 := hB.mono (m' := 1000000) (by omega)
              obtain ⟨kind, slot, nn, bv, bl, kv, kl2⟩ := d
              obtain ⟨ba, bcap, hbv, -, -, -⟩ := hda.b
              simp only at hbv
              subst hbv
              obtain ⟨⟨x0, x1, x2⟩, x3, x4⟩ := op_cells hdcw
              obtain ⟨hk1, hk2⟩ := hda.kind
              have hB1 := Small.op hB 0 4 (fun D => D.write nn bl) (fun D => write_cache D _ _)
              have HWR : Hid (∀ w, Sole W b B [(.slice x fl.length cap, fl)] w → Calls Try.prog 41 #[.pointer (some ⟨b, 0, none⟩), .int .i64 0, .int .i64 nn, .slice ba bl.length bcap] w (Gives fun v w' => ∃ c, v = .int .u16 c ∧ Sole W b (B.op 0 4 (fun D => D.write nn bl)) [(.slice x fl.length cap, fl)] w')) := fun w h =>
                Gives.imp (Sole.writeArg h hB6 0 nn hda.b) fun v w' hg => ⟨_, hg.1, hg.2⟩
              have haw1 := away_write haw nn bl
              obtain ⟨fl', haw2⟩ := away_flush haw1
              have HNX1 : Hid (∀ w, Sole W b (B.op 0 4 (fun D => D.write nn bl)) [(.slice x fl.length cap, fl)] w → AwayAt W b fl x cap (i + 1) w) := fun w h => ⟨_, h, haw1, hB1.mono (by omega)⟩
              have HFL : Hid (∀ w, Sole W b (B.op 0 4 (fun D => D.write nn bl)) [(.slice x fl.length cap, fl)] w → Calls Try.prog 42 #[.pointer (some ⟨b, 0, none⟩), .int .i64 0] w (Gives fun v w' => ∃ c, v = .int .u16 c ∧ Sole W b ((B.op 0 4 (fun D => D.write nn bl)).op 0 5 Dk.flush) [(.slice x fl.length cap, fl)] w')) := fun w h =>
                Gives.imp (Sole.flush h (hB1.mono (by omega)) 0) fun v w' hg => ⟨_, hg.1, hg.2⟩
              have HIM : Hid (∀ w, Sole W b ((B.op 0 4 (fun D => D.write nn bl)).op 0 5 Dk.flush) [(.slice x fl.length cap, fl)] w → Calls Try.prog 34 #[.pointer (some ⟨b, 0, none⟩), .int .i64 0] w (Gives fun v w' => ∃ x cap, v = .tuple #[.slice x fl'.length cap, .int .u16 0] ∧ AwayAt W b fl' x cap (i + 1) w')) := fun w h =>
                Gives.imp (Sole.image h 0 (away_image haw2).2.1 (away_image haw2).1) fun v w' hg => by
                  obtain ⟨x, cap, e1, e2⟩ := hg
                  refine ⟨x, cap, e1, _, e2.less (fun q hq => ?_), haw2, (Small.op hB1 0 5 Dk.flush (fun D => by unfold Dk.flush; split <;> simp [Dk.settle])).mono (by omega)⟩
                  rcases List.mem_cons.1 hq with rfl | hq
                  · exact List.mem_cons_self
                  · cases hq
              have HM0 := Lib.hid hm
              have HSK : Hid (AwayAt W b fl x cap (i + 1) wr) := ⟨B, hm, haw, hB.mono (by omega)⟩
              have HMD : Hid (Sole W b B [(.slice x fl.length cap, fl)] wr.drew) := Many.quiet hm (Keep.drew _ _)
              clear hm haw hB hB6 hda hdc hdcw hd hB1 haw1 haw2 HO HKB
              by_cases hk2' : kind = 2
              · subst hk2'
                go_wp2
                go_still_tail 11, (by kernel_rfl)
                change wpList _ _ _ _ _ wr.drew
                generalize wr.drew = wd at *
                by_cases hat : n = (i : Int)
                · subst hat
                  go_wp2_with (first | (go_at_call 41; go_must (refine (HWR.out _ HMD.out).mono ?_); rintro e w5 ⟨v, rfl, c, rfl, hv⟩; have H5 := Lib.hid hv; clear hv) | (go_at_call 42; go_must (refine (HFL.out _ H5.out).mono ?_); rintro e w6 ⟨v, rfl, c, rfl, hv⟩; have H6 := Lib.hid hv; clear hv) | (go_at_call 34; go_must (refine (HIM.out _ H6.out).mono ?_); rintro e w7 ⟨v, rfl, x', cap', rfl, hv⟩; have H7 := Lib.hid hv; clear hv))
                  exact ⟨⟨i + 1, fl', x', cap', by omega, by go_num, rfl, rfl, H7.out⟩, by simp [intOf]; omega⟩
                · have hatb : ((i : Int) == n) = false := by simp; omega
                  go_wp2_with (go_at_call 41; go_must (refine (HWR.out _ HMD.out).mono ?_); rintro e w5 ⟨v, rfl, c, rfl, hv⟩; have H5 := Lib.hid hv; clear hv)
                  exact ⟨⟨i + 1, fl, x, cap, by omega, by go_num, rfl, rfl, HNX1.out _ H5.out⟩, by simp [intOf]; omega⟩
              · have hkb : (kind != 2) = true := by simpa using hk2'
                go_wp2
                exact ⟨⟨i + 1, fl, x, cap, by omega, by go_num, rfl, rfl, HSK.out⟩, by simp [intOf]; omega⟩
            · obtain rfl : i = ops.length := by omega
              obtain ⟨⟨t1, t2, t3⟩, ⟨t4, t5⟩, ⟨t6, t7⟩, t8, t9, t10, t11⟩ := away_end haw [(.slice a l.length kc, l), (.slice a l.length kc, l)]
              have s0 := hB.mono (m' := 400000) (by omega)
              have s1 := Small.pull s0 (by omega) 0
              have HPU : Hid (∀ w L, Sole W b B L w → Calls Try.prog 44 #[.pointer (some ⟨b, 0, none⟩), .int .i64 0] w (Gives fun v w' => v = .int .u16 0 ∧ Sole W b (B.pull 0) L w')) := fun w L h => by have := Sole.pull h (s0.mono (by omega)) 0; rw [t1] at this; exact this
              have HH1 : Hid (∀ w L, Sole W b (B.pull 0) L w → Calls Try.prog 27 #[.pointer (some ⟨b, 0, none⟩), .int .i64 0] w fun e w' => e = .returned (.bool false) ∧ w = w') := fun w L h => by have := Sole.has h 0; rw [t2] at this; exact this
              have HSE : Hid (∀ w L, Sole W b (B.pull 0) L w → Calls Try.prog 45 #[.pointer (some ⟨b, 0, none⟩), .int .i64 0] w fun e w' => e = .returned (.int .i64 0) ∧ w = w') := fun w L h => by have := Sole.sectors h 0; rw [t3] at this; exact this
              have HP1 : Hid (∀ w L, Sole W b (B.pull 0) L w → Calls Try.prog 46 #[.pointer (some ⟨b, 0, none⟩), .int .i64 0] w (Gives fun v w' => v = .int .u16 0 ∧ Sole W b ((B.pull 0).push 0) L w')) := fun w L h => by have := Sole.push h 0; rw [t4] at this; exact this
              have s2 := Small.push s1 0
              have HRD : Hid (∀ w L, Sole W b ((B.pull 0).push 0) L w → Calls Try.prog 47 #[.pointer (some ⟨b, 0, none⟩), .int .i64 0, .int .i64 0] w (Gives fun v w' => ∃ s, v = .tuple #[s, .int .u16 51] ∧ Sole W b (((B.pull 0).push 0).op 0 3 id) L w')) := fun w L h => by have := Sole.read h (s2.mono (by omega)) 0 0; rw [t5] at this; exact this
              have s3 := Small.op s2 0 3 id (fun D => by simp)
              have HH3 : Hid (∀ w L, Sole W b (((B.pull 0).push 0).op 0 3 id) L w → Calls Try.prog 27 #[.pointer (some ⟨b, 0, none⟩), .int .i64 0] w fun e w' => e = .returned (.bool false) ∧ w = w') := fun w L h => by have := Sole.has h 0; rw [t6] at this; exact this
              have HP3 : Hid (∀ w L, Sole W b (((B.pull 0).push 0).op 0 3 id) L w → Calls Try.prog 46 #[.pointer (some ⟨b, 0, none⟩), .int .i64 0] w (Gives fun v w' => v = .int .u16 51 ∧ Sole W b ((((B.pull 0).push 0).op 0 3 id).push 0) L w')) := fun w L h => by have := Sole.push h 0; rw [t7] at this; exact this
              have s4 : ((((B.pull 0).push 0).op 0 3 id).push 0).Small 1000000 := Small.push (s3.mono (by omega)) 0
              have HCU : Hid (∀ w L, Sole W b ((((B.pull 0).push 0).op 0 3 id).push 0) L w → Calls Try.prog 33 #[.pointer (some ⟨b, 0, none⟩), .slice (some ⟨w.heap.size, 0, none⟩) 2 2] (w.alloc (.cells #[.slice a l.length kc, .slice a l.length kc] 57)) (Gives fun v w' => v = .tuple #[] ∧ Sole W b (((((B.pull 0).push 0).op 0 3 id).push 0).cutg [(.slice a l.length kc, l), (.slice a l.length kc, l)]) L w')) := fun w L h => Sole.cut h s4 HKB.out
              have s5 := Small.cutg s4 (by omega) [(.slice a l.length kc, l), (.slice a l.length kc, l)]
              generalize ((((B.pull 0).push 0).op 0 3 id).push 0).cutg [(.slice a l.length kc, l), (.slice a l.length kc, l)] = B5 at *
              have HIM : Hid (∀ w L, Sole W b B5 L w → Calls Try.prog 34 #[.pointer (some ⟨b, 0, none⟩), .int .i64 0] w (Gives fun v w' => ∃ x cap, v = .tuple #[.slice x fl.length cap, .int .u16 0] ∧ Sole W b B5 ((.slice x fl.length cap, fl) :: L) w')) := fun w L h => Sole.image h 0 t8 t9
              have HH5 : Hid (∀ w L, Sole W b B5 L w → Calls Try.prog 27 #[.pointer (some ⟨b, 0, none⟩), .int .i64 0] w fun e w' => e = .returned (.bool true) ∧ w = w') := fun w L h => by have := Sole.has h 0; rw [t10] at this; exact this
              have HPE : Hid (∀ w L, Sole W b B5 L w → Calls Try.prog 40 #[.pointer (some ⟨b, 0, none⟩), .int .i64 0] w (Gives fun v w' => ∃ x cap, v = .slice x 0 cap ∧ Sole W b B5 L w')) := fun w L h => by have := Sole.pending h s5 0; rw [t11] at this; exact this
              have HSA : Hid (∀ w L (v1 v2 : Value), Sole W b B5 L w → (v1, fl) ∈ L → (v2, fl) ∈ L → Calls Try.prog 19 #[v1, v2] w (Gives fun v w' => v = .bool true ∧ Sole W b B5 L w')) := fun w L v1 v2 h m1 m2 =>
                Gives.imp (Many.same h m1 m2) fun v w' hg => ⟨hg.1.trans (by simp), hg.2.1⟩
              have HM0 : Hid (Sole W b B [(.slice x fl.length cap, fl)] wr) := hm
              generalize (((B.pull 0).push 0).op 0 3 id).push 0 = B4 at *
              generalize ((B.pull 0).push 0).op 0 3 id = B3 at *
              generalize (B.pull 0).push 0 = B2 at *
              generalize B.pull 0 = B1' at *
              clear hm haw hB t1 t2 t3 t4 t5 t6 t7 t8 t9 t10 t11 s0 s1 s2 s3 s4 s5 HO HKB hlt
              go_wp2_with (first | (go_at_call 44; go_must (refine (HPU.out _ _ HM0.out).mono ?_); rintro e w5 ⟨v, rfl, rfl, hv⟩; have K1 := Lib.hid hv; clear hv) | (go_at_call 45; go_must (refine (HSE.out _ _ K1.out).mono ?_); rintro e wz ⟨rfl, rfl⟩) | (go_at_call 27; refine (HH5.out _ _ K6.out).mono ?_; rintro e wz ⟨rfl, rfl⟩) | (go_at_call 27; refine (HH3.out _ _ K3.out).mono ?_; rintro e wz ⟨rfl, rfl⟩) | (go_at_call 27; go_must (refine (HH1.out _ _ K1.out).mono ?_); rintro e wz ⟨rfl, rfl⟩) | (go_at_call 46; refine (HP3.out _ _ K3.out).mono ?_; rintro e w8 ⟨v, rfl, rfl, hv⟩; have K4 := Lib.hid hv; clear hv) | (go_at_call 46; go_must (refine (HP1.out _ _ K1.out).mono ?_); rintro e w6 ⟨v, rfl, rfl, hv⟩; have K2 := Lib.hid hv; clear hv) | (go_at_call 47; go_must (refine (HRD.out _ _ K2.out).mono ?_); rintro e w7 ⟨v, rfl, s9, rfl, hv⟩; have K3 := Lib.hid hv; clear hv) | (go_at_call 33; go_must (refine (HCU.out _ _ K4.out).mono ?_); rintro e w9 ⟨v, rfl, rfl, hv⟩; have K5 := Lib.hid hv; clear hv) | (go_at_call 34; go_must (refine (HIM.out _ _ K5.out).mono ?_); rintro e w10 ⟨v, rfl, x6, cap6, rfl, hv⟩; have K6 := Lib.hid hv; clear hv) | (go_at_call 19; go_must (refine (HSA.out _ _ _ _ K6.out List.mem_cons_self (List.mem_cons_of_mem _ List.mem_cons_self)).mono ?_); rintro e w11 ⟨v, rfl, rfl, hv⟩; have K7 := Lib.hid hv; clear hv) | (go_at_call 40; go_must (refine (HPE.out _ _ K7.out).mono ?_); rintro e w12 ⟨v, rfl, x8, cap8, rfl, hv⟩; have K8 := Lib.hid hv; clear hv))
              go_ret
              exact ⟨_, rfl, rfl, Many.old K8.out⟩
    · go_enter Try.func9, Try.ntmps9
      go_wp2_with (first | (go_at_call 23; go_must (refine HM.out.mono ?_); rintro e w1 ⟨v, rfl, c, rfl, hk, hc⟩; have HK1 := Lib.hid hk; clear hk hc) | (go_at_call 24; go_must (refine (new_two_bad (HS0.out.quiet HK1.out) hok).mono ?_); rintro e w2 ⟨v, rfl, rfl, hv⟩; have H2 := Lib.hid hv; clear hv) | (go_at_call 25; go_must (refine (HK25.out _).mono ?_); rintro e w3 ⟨v, rfl, rfl, hv⟩; have H3 := Lib.hid (Many.past H2.out hv); clear hv))
      · go_ret
        exact ⟨_, rfl, rfl, (HS0.out.quiet HK1.out).old⟩
      · go_ret
        exact ⟨_, rfl, rfl, H3.out.old⟩
end Go.Proofs.Ytghnbbpoaeheaaa
