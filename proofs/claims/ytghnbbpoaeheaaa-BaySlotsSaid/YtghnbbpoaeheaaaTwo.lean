/- BayTwo, walked. -/
import Derived.Test.YtghnbbpoaeheaaaPull
import Derived.Test.YtghnbbpoaeheaaaTrips
import Derived.IntWalk
namespace Go.Proofs.Ytghnbbpoaeheaaa
open Go.RowKit

theorem pull_coming {B : By} (h : B.NoneComing) (k : Int) : (B.pull k).NoneComing := by
  intro j hj
  unfold By.pull
  split
  · exact h j hj
  · show moved (aside (k.toNat * 3)) _ none j = none
    unfold moved aside
    rw [if_neg (by omega), if_neg (by omega)]
    simp only [By.setDev, put_other _ _ (show j ≠ k.toNat * 3 by omega)]
    exact h j hj
theorem Small.pull {B : By} {m : Int} (h : B.Small m) (hm : 0 ≤ m) (k : Int) : (B.pull k).Small m := by
  unfold By.pull
  split
  · exact h
  · rename_i d hd
    have h1 : (B.setDev (k.toNat * 3) (some { d with disk := d.disk.crash [] })).Small m := Small.setDev h fun e he => by obtain rfl := (Option.some.inj he).symm; simpa [Dk.crash, Dk.settle] using hm
    refine ⟨h1.cr, h1.cw, h1.cf, fun j e he => ?_⟩
    simp only [moved] at he
    split at he
    · cases he
    · exact h1.cl _ e he
theorem failed_coming {B : By} (h : B.NoneComing) (k : Int) : (B.failed k).NoneComing := by
  intro j hj
  unfold By.failed
  split
  · exact h j hj
  · simp only [By.setDev, put_other _ _ (show j ≠ k.toNat * 3 by omega)]; exact h j hj
theorem tripped_coming {B : By} (h : B.NoneComing) (n : Int) : (B.tripped n).NoneComing := by
  unfold By.tripped; split
  · exact h
  · split <;> exact h
theorem cut_coming {B : By} (h : B.NoneComing) (kl : List (Value × List Bool)) : (B.cut kl).NoneComing := by
  intro j hj
  show (B.cutTo kl B.n).dev j = none
  rw [cutTo_dev, if_neg (by omega)]
  exact h j hj

/-- A bay as it was made: what its slots answer. -/
theorem fresh_slot (l : List Int) {j : Nat} {s : Int} (hj : l[j]? = some s) : (By.fresh l l.length).in j = freshDev s := by
  have hlt : j < l.length := (List.getElem?_eq_some_iff.1 hj).1
  unfold By.in
  rw [if_pos (show (By.fresh l l.length).is j from ⟨by omega, by show (j : Int) < l.length; omega⟩)]
  show (if _ then _ else _) = _
  rw [show (j : Int).toNat * 3 = j * 3 by simp, if_pos ⟨by omega, by omega⟩, show j * 3 / 3 = j by omega, List.getD_eq_getElem?_getD, hj]
  rfl
theorem fresh_tcode (l : List Int) {j : Nat} {s : Int} (hj : l[j]? = some s) : (By.fresh l l.length).tcode j = if s = 0 then 51 else 0 := by
  have hlt : j < l.length := (List.getElem?_eq_some_iff.1 hj).1
  have hi := fresh_slot l hj
  unfold By.in at hi
  have hk : (By.fresh l l.length).is j := ⟨by omega, by show (j : Int) < l.length; omega⟩
  rw [if_pos hk] at hi
  unfold By.tcode
  rw [if_pos hk, hi]
  unfold freshDev
  by_cases h : s = 0
  · rw [if_pos h, if_pos h]
  · rw [if_neg h, if_neg h]
theorem new_image (s : Nat) : (Dk.new s).image = List.replicate (s * 128) 0 := by
  show (List.replicate s (List.replicate 128 0)).flatten = _
  induction s with
  | zero => rfl
  | succ n ih => rw [List.replicate_succ, List.flatten_cons, ih, List.replicate_append_replicate]; congr 1; omega
theorem fresh_image (l : List Int) {j : Nat} {s : Int} (hj : l[j]? = some s) : (By.fresh l l.length).image j = List.replicate (s.toNat * 128) 0 := by
  unfold By.image
  rw [fresh_slot l hj]
  unfold freshDev
  by_cases h : s = 0
  · rw [if_pos h, h]; rfl
  · rw [if_neg h]; exact new_image _
theorem fresh_has (l : List Int) {j : Nat} {s : Int} (hj : l[j]? = some s) : (By.fresh l l.length).has j = !decide (s = 0) := by
  unfold By.has
  rw [fresh_slot l hj]
  unfold freshDev
  by_cases h : s = 0
  · simp [h]
  · simp [h, Dk.new]

section
variable {W w : World} {a b : Nat} {A B : By} {L : List (Value × List Int)}
theorem failA (h : Many W w 2 (pt a b) (two A B) L) (hs : A.Small 1000000) (k : Int) : Calls Try.prog 43 #[.pointer (some ⟨a, 0, none⟩), .int .i64 k] w (Gives fun v w' => v = .int .u16 (A.tcode k) ∧ Many W w' 2 (pt a b) (two (A.failed k) B) L) :=
  Gives.imp (Many.fail h 0 (by omega) hs k) fun v w' hg => ⟨hg.1, hg.2.1.two0⟩
theorem tripA (h : Many W w 2 (pt a b) (two A B) L) (n : Int) (hn : n ≤ 9223372036854775807) : Calls Try.prog 30 #[.pointer (some ⟨a, 0, none⟩), .int .i64 n] w (Gives fun v w' => v = .int .u16 (A.tripc n) ∧ Many W w' 2 (pt a b) (two (A.tripped n) B) L) :=
  Gives.imp (Many.trip h 0 (by omega) n hn) fun v w' hg => ⟨hg.1, hg.2.1.two0⟩
theorem pullA (h : Many W w 2 (pt a b) (two A B) L) (hs : A.Small 1000000) (k : Int) : Calls Try.prog 44 #[.pointer (some ⟨a, 0, none⟩), .int .i64 k] w (Gives fun v w' => v = .int .u16 (A.tcode k) ∧ Many W w' 2 (pt a b) (two (A.pull k) B) L) := by
  obtain ⟨F, hb, hF, hst⟩ := h.step 0 (by omega)
  exact Gives.imp (pull_any hb k hs.list) fun v w' hg => ⟨hg.1, (hst _ _ hg.2).1.two0⟩
end
/-- How far BayTwo's first loop has come. -/
def TwoAt (W : World) (a b : Nat) (F : By) (i : Nat) (w : World) : Prop := ∃ A, Many W w 2 (pt a b) (two A F) [] ∧ A.Small i ∧ A.NoneComing

set_option maxRecDepth 100000 in
set_option maxHeartbeats 2000000 in
theorem two_any {W : World} {sv ov : Value} {sizes : List Int} {ops : List OpD} (hs : IntsAt W sv sizes) (hsl : sizes.length ≤ far) (hsi : ∀ s ∈ sizes, inI64 s) (ho : OpsAt W ov ops) :
    Calls Try.prog 8 #[sv, ov] W (Gives fun v w' => v = .bool true ∧ Keep (Old W) W w') := by
  have HM := Lib.hid (much_any (W := W) hs hsl hsi ho)
  have HO := Lib.hid ho
  have HSZ := Lib.hid hs
  obtain ⟨oa, oc, rfl, -, -, -⟩ := ho
  obtain ⟨sa, sc, rfl, -, hsr⟩ := hs
  have HS0 : Hid (Many W W 0 (fun _ => 0) (fun _ => B0) []) := Many.start0 _ _ _
  have HK25 : Hid (∀ w, Calls Try.prog 25 #[] w (Gives fun v w' => v = .bool true ∧ Keep (Old w) w w')) := fun w => known_any w
  clear hsi
  by_cases hok : sizesOk sizes
  · have hm17 : sizes.length ≤ 17 := hok.2.1
    have HNG : Hid (∀ (w : World) (m : Nat) (p : Nat → Nat) (Bs : Nat → By), Many W w m p Bs [] → Calls Try.prog 24 #[.slice sa sizes.length sc] w (Gives fun r w' => ∃ b, r = .tuple #[.pointer (some ⟨b, 0, none⟩), .int .u16 0] ∧ Many W w' (m + 1) (put p m b) (put Bs m (By.fresh sizes sizes.length)) [])) := fun w m p Bs h => h.new_ok HSZ.out hok
    obtain ⟨sb, so, rfl, hsr2⟩ := hsr (by rintro rfl; simp [sizesOk] at hok)
    have HSR := Lib.hid hsr2
    have HF : Hid ((By.fresh sizes sizes.length).Small 0 ∧ (By.fresh sizes sizes.length).NoneComing ∧ ((By.fresh sizes sizes.length).cr = 0 ∧ (By.fresh sizes sizes.length).cw = 0 ∧ (By.fresh sizes sizes.length).cf = 0) ∧ (By.fresh sizes sizes.length).dark = false) := ⟨fresh_small _ _, fresh_coming _ _, ⟨rfl, rfl, rfl⟩, rfl⟩
    have HFS : Hid (∀ (j : Nat) (s : Int), sizes[j]? = some s → (By.fresh sizes sizes.length).tcode j = (if s = 0 then 51 else 0) ∧ (By.fresh sizes sizes.length).image j = List.replicate (s.toNat * 128) 0 ∧ (By.fresh sizes sizes.length).has j = !decide (s = 0)) := fun j s hj => ⟨fresh_tcode sizes hj, fresh_image sizes hj, fresh_has sizes hj⟩
    have HOK : Hid (∀ s ∈ sizes, sizeOk s) := hok.2.2
    generalize By.fresh sizes sizes.length = F at *
    clear hsr hsr2 hok
    go_enter Try.func8, Try.ntmps8
    go_wp2_with (first | (go_at_call 23; go_must (refine HM.out.mono ?_); rintro e w1 ⟨v, rfl, c, rfl, hk, hc⟩; have HC := Lib.hid hc; have HK1 := Lib.hid hk; clear hk hc) | (go_at_call 24; refine (HNG.out _ _ _ _ H3.out).mono ?_; rintro e w4 ⟨v, rfl, b, rfl, hv⟩; have H4 := Lib.hid hv; clear hv) | (go_at_call 24; go_must (refine (HNG.out _ _ _ _ (HS0.out.quiet HK1.out)).mono ?_); rintro e w3 ⟨v, rfl, a, rfl, hv⟩; have H3 := Lib.hid hv; clear hv) | (go_at_call 25; go_must (refine (HK25.out _).mono ?_); rintro e w5 ⟨v, rfl, rfl, hv⟩; have H5 := Lib.hid (H4.out.past hv).two01; clear hv))
    · go_ret
      exact ⟨_, rfl, rfl, (HS0.out.quiet HK1.out).old⟩
    · have hlen : ops.length ≤ 100000 := by have := HC.out (by first | assumption | simpa using ‹¬ c = true›); omega
      clear HC HM HS0 HK25 HNG H3 H4 HK1
      go_loopw [9] (fun t wr => ∃ (i : Nat), i ≤ ops.length ∧ t = .int .i64 i ∧ TwoAt W a b F i wr) (fun t _ => ops.length - (intOf t).toNat)
      case atStart => exact ⟨0, Nat.zero_le _, rfl, _, H5.out, HF.out.1, HF.out.2.1⟩
      case round =>
        obtain ⟨i, hi, rfl, A, hm, hA, hcA⟩ := hrel
        by_cases hlt : i < ops.length
        · obtain ⟨d, hd⟩ : ∃ d, ops[i]? = some d := ⟨_, List.getElem?_eq_getElem hlt⟩
          obtain ⟨bb, o, cap, hv, hda, hdc⟩ := HO.out.get hd
          have hdc := hdc wr hm.old
          simp only [Value.slice.injEq, true_and] at hv
          obtain ⟨rfl, rfl⟩ := hv
          have hA6 := hA.mono (m' := 1000000) (by omega)
          have hA1 := hA.mono (m' := i + 1) (by omega)
          obtain ⟨kind, slot, nn, bv, bl, kv, kl2⟩ := d
          obtain ⟨ba, bcap, hbv, -, -, -⟩ := hda.b
          obtain ⟨ka2, kcap, hkv, -, -, -⟩ := hda.k
          simp only at hbv hkv
          subst hbv
          subst hkv
          have HMW : Hid (Many W (wr.alloc (.cells #[.int .i64 kind, .int .i64 slot, .int .i64 nn, .slice ba bl.length bcap, .slice ka2 kl2.length kcap] 69)) 2 (pt a b) (two A F) []) := hm.quiet (Keep.alloc _ _ _)
          obtain ⟨⟨x0, x1, x2⟩, x3, x4⟩ := op_cells hdc
          obtain ⟨hk1, hk2⟩ := hda.kind
          have HPL : Hid (∀ w, Many W w 2 (pt a b) (two A F) [] → Calls Try.prog 28 #[.pointer (some ⟨a, 0, none⟩), .agg #[.int .i64 kind, .int .i64 slot, .int .i64 nn, .slice ba bl.length bcap, .slice ka2 kl2.length kcap]] w (Gives fun v w' => ∃ s c, v = .tuple #[s, .int .u16 c] ∧ TwoAt W a b F (i + 1) w')) := fun w h =>
            Gives.imp (Many.plain h 0 (by omega) hA6 ⟨kind, slot, nn, .slice ba bl.length bcap, bl, .slice ka2 kl2.length kcap, kl2⟩ hda) fun v w' hg => by
              obtain ⟨s, e1, e2, _⟩ := hg
              exact ⟨s, _, e1, _, e2.two0.less (fun q hq => by cases hq), Small.plain hA _, plain_coming hcA _⟩
          have HFL : Hid (∀ w, Many W w 2 (pt a b) (two A F) [] → Calls Try.prog 43 #[.pointer (some ⟨a, 0, none⟩), .int .i64 slot] w (Gives fun v w' => ∃ c, v = .int .u16 c ∧ TwoAt W a b F (i + 1) w')) := fun w h =>
            Gives.imp (failA h hA6 slot) fun v w' hg => ⟨_, hg.1, _, hg.2, Small.failed hA1 (by omega) _, failed_coming hcA _⟩
          have HPU : Hid (∀ w, Many W w 2 (pt a b) (two A F) [] → Calls Try.prog 44 #[.pointer (some ⟨a, 0, none⟩), .int .i64 slot] w (Gives fun v w' => ∃ c, v = .int .u16 c ∧ TwoAt W a b F (i + 1) w')) := fun w h =>
            Gives.imp (pullA h hA6 slot) fun v w' hg => ⟨_, hg.1, _, hg.2, Small.pull hA1 (by omega) _, pull_coming hcA _⟩
          have HTR : Hid (∀ w, Many W w 2 (pt a b) (two A F) [] → Calls Try.prog 30 #[.pointer (some ⟨a, 0, none⟩), .int .i64 nn] w (Gives fun v w' => ∃ c, v = .int .u16 c ∧ TwoAt W a b F (i + 1) w')) := fun w h =>
            Gives.imp (tripA h nn hda.n.2) fun v w' hg => ⟨_, hg.1, _, hg.2, Small.tripped hA1 _, tripped_coming hcA _⟩
          have HCU : Hid (∀ w, Many W w 2 (pt a b) (two A F) [] → Calls Try.prog 33 #[.pointer (some ⟨a, 0, none⟩), .slice ka2 kl2.length kcap] w (Gives fun v w' => v = .tuple #[] ∧ TwoAt W a b F (i + 1) w')) := fun w h =>
            Gives.imp (cutA h hA6 hcA hda.k) fun v w' hg => ⟨hg.1, _, hg.2, Small.cut hA1 (by omega) _, cut_coming hcA _⟩
          have HNX : Hid (TwoAt W a b F (i + 1) (wr.alloc (.cells #[.int .i64 kind, .int .i64 slot, .int .i64 nn, .slice ba bl.length bcap, .slice ka2 kl2.length kcap] 69))) := ⟨A, HMW.out, hA1, hcA⟩
          clear hm hA hcA hda hdc hd hA6 hA1 HO HSZ H5 HF HFS HSR HOK
          have hkc : kind = 1 ∨ kind = 2 ∨ kind = 3 ∨ kind = 4 ∨ kind = 8 ∨ kind = 10 ∨ kind = 11 ∨ (kind ≠ 1 ∧ kind ≠ 2 ∧ kind ≠ 3 ∧ kind ≠ 4 ∧ kind ≠ 8 ∧ kind ≠ 10 ∧ kind ≠ 11) := by omega
          rcases hkc with rfl | rfl | rfl | rfl | rfl | rfl | rfl | ⟨n1, n2, n3, n4, n5, n6, n7⟩
          · go_wp2_with (go_at_call 28; go_must (refine (HPL.out _ HMW.out).mono ?_); rintro e w6 ⟨v, rfl, s, c, rfl, hv⟩; have HV := Lib.hid hv; clear hv)
            exact ⟨⟨i + 1, by omega, by go_num, HV.out⟩, by simp [intOf]; omega⟩
          · go_wp2_with (go_at_call 28; go_must (refine (HPL.out _ HMW.out).mono ?_); rintro e w6 ⟨v, rfl, s, c, rfl, hv⟩; have HV := Lib.hid hv; clear hv)
            exact ⟨⟨i + 1, by omega, by go_num, HV.out⟩, by simp [intOf]; omega⟩
          · go_wp2_with (go_at_call 28; go_must (refine (HPL.out _ HMW.out).mono ?_); rintro e w6 ⟨v, rfl, s, c, rfl, hv⟩; have HV := Lib.hid hv; clear hv)
            exact ⟨⟨i + 1, by omega, by go_num, HV.out⟩, by simp [intOf]; omega⟩
          · go_wp2_with (go_at_call 43; go_must (refine (HFL.out _ HMW.out).mono ?_); rintro e w6 ⟨v, rfl, c, rfl, hv⟩; have HV := Lib.hid hv; clear hv)
            exact ⟨⟨i + 1, by omega, by go_num, HV.out⟩, by simp [intOf]; omega⟩
          · go_wp2_with (go_at_call 44; go_must (refine (HPU.out _ HMW.out).mono ?_); rintro e w6 ⟨v, rfl, c, rfl, hv⟩; have HV := Lib.hid hv; clear hv)
            exact ⟨⟨i + 1, by omega, by go_num, HV.out⟩, by simp [intOf]; omega⟩
          · go_wp2_with (go_at_call 30; go_must (refine (HTR.out _ HMW.out).mono ?_); rintro e w6 ⟨v, rfl, c, rfl, hv⟩; have HV := Lib.hid hv; clear hv)
            exact ⟨⟨i + 1, by omega, by go_num, HV.out⟩, by simp [intOf]; omega⟩
          · go_wp2_with (go_at_call 33; go_must (refine (HCU.out _ HMW.out).mono ?_); rintro e w6 ⟨v, rfl, rfl, hv⟩; have HV := Lib.hid hv; clear hv)
            exact ⟨⟨i + 1, by omega, by go_num, HV.out⟩, by simp [intOf]; omega⟩
          · have m1 : (kind == 1) = false := by simpa using n1
            have m2 : (kind == 2) = false := by simpa using n2
            have m3 : (kind == 3) = false := by simpa using n3
            have m4 : (kind == 4) = false := by simpa using n4
            have m5 : (kind == 8) = false := by simpa using n5
            have m6 : (kind == 10) = false := by simpa using n6
            have m7 : (kind == 11) = false := by simpa using n7
            go_wp2
            exact ⟨⟨i + 1, by omega, by go_num, HNX.out⟩, by simp [intOf]; omega⟩
        · obtain rfl : i = ops.length := by omega
          have HM0 := Lib.hid hm
          have HCB : Hid (∀ w, Many W w 2 (pt a b) (two A F) [] → Calls Try.prog 29 #[.pointer (some ⟨b, 0, none⟩)] w (Gives fun v w' => v = .agg #[.int .i64 0, .int .i64 0, .int .i64 0] ∧ Many W w' 2 (pt a b) (two A F) [])) := fun w h => by
            have := (countsAB h).2
            rw [HF.out.2.2.1.1, HF.out.2.2.1.2.1, HF.out.2.2.1.2.2] at this
            exact this
          have HDK : Hid (∀ w, Many W w 2 (pt a b) (two A F) [] → Calls Try.prog 31 #[.pointer (some ⟨b, 0, none⟩)] w fun e w' => e = .returned (.bool false) ∧ w = w') := fun w h => by
            have := Many.dark h 1 (by omega)
            rw [show (two A F 1).dark = false from HF.out.2.2.2] at this
            exact this
          have HIM : Hid (∀ (w : World) (j : Nat) (s : Int), sizes[j]? = some s → Many W w 2 (pt a b) (two A F) [] → Calls Try.prog 34 #[.pointer (some ⟨b, 0, none⟩), .int .i64 j] w (Gives fun v w' => ∃ x cap, v = .tuple #[.slice x (s.toNat * 128) cap, .int .u16 (if s = 0 then 51 else 0)] ∧ Many W w' 2 (pt a b) (two A F) [(.slice x (s.toNat * 128) cap, List.replicate (s.toNat * 128) 0)])) := fun w j s hj h => by
            have := imageB h j
            obtain ⟨e1, e2, _⟩ := HFS.out j s hj
            rw [e1, e2] at this
            refine Gives.imp this fun v w' hg => ?_
            obtain ⟨x, cap, h1, h2⟩ := hg
            rw [List.length_replicate] at h1 h2
            exact ⟨x, cap, h1, h2⟩
          have HHS : Hid (∀ (w : World) (j : Nat) (s : Int) (L : List (Value × List Int)), sizes[j]? = some s → Many W w 2 (pt a b) (two A F) L → Calls Try.prog 27 #[.pointer (some ⟨b, 0, none⟩), .int .i64 j] w fun e w' => e = .returned (.bool (!decide (s = 0))) ∧ w = w') := fun w j s L hj h => by
            have := Many.has h 1 (by omega) j
            rw [show (two A F 1).has j = F.has j from rfl, (HFS.out j s hj).2.2] at this
            exact this
          clear hm hA hcA HO HSZ H5 HF HFS hlt
          go_wp2_with (first | (go_at_call 29; go_must (refine (HCB.out _ HM0.out).mono ?_); rintro e w6 ⟨v, rfl, rfl, hv⟩; have HM1 := Lib.hid hv; clear hv) | (go_at_call 31; go_must (refine (HDK.out _ HM1.out).mono ?_); rintro e wd ⟨rfl, rfl⟩))
          go_loopw [11] (fun t wr => ∃ (j : Nat), j ≤ sizes.length ∧ t = .int .i64 j ∧ Many W wr 2 (pt a b) (two A F) []) (fun t _ => sizes.length - (intOf t).toNat)
          case atStart => exact ⟨0, Nat.zero_le _, rfl, HM1.out⟩
          case round =>
            obtain ⟨j, hj, rfl, hmj⟩ := hrel
            have HMJ := Lib.hid hmj
            clear hmj
            by_cases hlt : j < sizes.length
            · obtain ⟨s, hsj⟩ : ∃ s, sizes[j]? = some s := ⟨_, List.getElem?_eq_getElem hlt⟩
              have hok := HOK.out s (List.mem_of_getElem? hsj)
              have HCE : Hid (∀ w', Keep (Old W) W w' → w'.cell? ⟨sb, so + j, none⟩ = some (.int .i64 s)) := fun w' hk => hk.old (HSR.out j _ (by simp [ints, hsj]))
              have HI := Lib.hid (HIM.out wr j s hsj HMJ.out)
              have HH := Lib.hid (fun w L h => HHS.out w j s L hsj h)
              clear hsj
              rcases hok with rfl | ⟨hs1, hs2⟩
              · rw [if_pos rfl] at HI
                simp only [Int.toNat_zero, Nat.zero_mul, List.replicate_zero] at HI
                go_wp2_with (go_at_call 34; go_must (refine HI.out.mono ?_); rintro e w7 ⟨v, rfl, x, cap, rfl, hv⟩; have HV := Lib.hid hv; clear hv)
                have q0 := HCE.out _ HV.out.old
                have HH7 : ∀ nq, Calls Try.prog 27 #[.pointer (some ⟨b, 0, none⟩), .int .i64 j] (w7.drewN nq) fun e w' => e = .returned (.bool false) ∧ w' = w7.drewN nq := fun nq => by
                  have := (HH.out _ _ (HV.out.quiet (Keep.drewN NoF w7 nq))).mono fun e w' hg => And.intro hg.1 hg.2.symm
                  simpa using this
                refine wp_loop_rounds 1 ?_
                rw [rounds_succ]
                go_wp2
                go_quiet ((go_at_call 27; exact Calls.quiet_of_same (HH7 _)))
                go_wp2
                exact ⟨⟨j + 1, by omega, by go_num, (HV.out.quiet (Keep.drewN _ _ _)).less (fun q hq => by cases hq)⟩, by simp [intOf]; omega⟩
              · have hs0 : ¬ s = 0 := by omega
                rw [if_neg hs0] at HI
                have hn : ((s.toNat * 128 : Nat) : Int) = 128 * s := by omega
                have hsp : decide (0 < s) = true := by simp; omega
                have hwr : IntKind.i64.wrap (128 * s) = 128 * s := IntWalk.i64_in _ (by omega)
                generalize s.toNat * 128 = n at *
                have hnn : ((n : Int) != 128 * s) = false := by rw [hn]; simp
                go_wp2_with (go_at_call 34; go_must (refine HI.out.mono ?_); rintro e w7 ⟨v, rfl, x, cap, rfl, hv⟩; have HV := Lib.hid hv; clear hv)
                have q0 := HCE.out _ HV.out.old
                have HH7 : ∀ nq, Calls Try.prog 27 #[.pointer (some ⟨b, 0, none⟩), .int .i64 j] (w7.drewN nq) fun e w' => e = .returned (.bool true) ∧ w' = w7.drewN nq := fun nq => by
                  have := (HH.out _ _ (HV.out.quiet (Keep.drewN NoF w7 nq))).mono fun e w' hg => And.intro hg.1 hg.2.symm
                  rw [show (!decide (s = 0)) = true by simp; omega] at this
                  exact this
                have HBY := Lib.hid (HV.out.bytes List.mem_cons_self)
                go_loopw [14] (fun t wr => ∃ (k : Nat), k ≤ n ∧ t = .int .i64 k ∧ w7 = wr) (fun t _ => n - (intOf t).toNat)
                case atStart => exact ⟨0, Nat.zero_le _, rfl, rfl⟩
                case round =>
                  obtain ⟨k, hk, rfl, rfl⟩ := hrel
                  by_cases hkn : k < n
                  · obtain ⟨x', cap', hv, _, _, h3⟩ := HBY.out
                    simp only [List.length_replicate, Value.slice.injEq, true_and] at hv
                    obtain ⟨rfl, rfl⟩ := hv
                    obtain ⟨b8, o8, rfl, hr8⟩ := h3 (by intro h; have := congrArg List.length h; simp at this; omega)
                    have hc8 : w7.cell? ⟨b8, o8 + k, none⟩ = some (.int .u8 0) := hr8 k _ (by simp [u8s, hkn])
                    clear hr8 h3
                    go_wp2
                    exact ⟨⟨k + 1, by omega, by go_num, trivial⟩, by simp [intOf]; omega⟩
                  · have hkn2 : k = n := by omega
                    subst hkn2
                    go_wp2
                    go_quiet ((go_at_call 27; exact Calls.quiet_of_same (HH7 _)))
                    go_wp2
                    exact ⟨⟨j + 1, by omega, by go_num, (HV.out.quiet (Keep.drewN _ _ _)).less (fun q hq => by cases hq)⟩, by simp [intOf]; omega⟩
            · go_wp2
              go_ret
              exact ⟨_, rfl, rfl, HMJ.out.old⟩
  · have hbc : (badCode sizes != 0) = true := by unfold badCode; split <;> rfl
    have HNB : Hid (∀ w, Many W w 0 (fun _ => 0) (fun _ => B0) [] → Calls Try.prog 24 #[.slice sa sizes.length sc] w (Gives fun r w' => r = .tuple #[.pointer none, .int .u16 (badCode sizes)] ∧ Many W w' 0 (fun _ => 0) (fun _ => B0) [])) := fun w h => h.new_bad HSZ.out hok
    generalize badCode sizes = bc at *
    clear hsr
    go_enter Try.func8, Try.ntmps8
    go_wp2_with (first | (go_at_call 23; go_must (refine HM.out.mono ?_); rintro e w1 ⟨v, rfl, c, rfl, hk, hc⟩; have HC := Lib.hid hc; have HK1 := Lib.hid hk; clear hk hc) | (go_at_call 24; refine (HNB.out _ H3.out).mono ?_; rintro e w4 ⟨v, rfl, rfl, hv⟩; have H4 := Lib.hid hv; clear hv) | (go_at_call 24; go_must (refine (HNB.out _ (HS0.out.quiet HK1.out)).mono ?_); rintro e w3 ⟨v, rfl, rfl, hv⟩; have H3 := Lib.hid hv; clear hv) | (go_at_call 25; go_must (refine (HK25.out _).mono ?_); rintro e w5 ⟨v, rfl, rfl, hv⟩; have H5 := Lib.hid (H4.out.past hv); clear hv))
    · go_ret
      exact ⟨_, rfl, rfl, (HS0.out.quiet HK1.out).old⟩
    · go_ret
      exact ⟨_, rfl, rfl, H5.out.old⟩
end Go.Proofs.Ytghnbbpoaeheaaa
