/- BayCuts, walked. -/
import Derived.Test.YtghnbbpoaeheaaaCuts1
import Derived.StillTailTactics
namespace Go.Proofs.Ytghnbbpoaeheaaa
open Go.RowKit

/-- How far BayCuts' inner loop has come at a sector. -/
def IsAt (ops : List OpD) (at_ : Int) (k : Nat) (la lw : List Int) (i : Nat) (t : Value) : Prop := ∃ is : Bool, t = .bool is ∧ (is = false → sector lw k ≠ sector la k ∧ ¬ Wrote ops at_ i k (sector lw k))

set_option maxRecDepth 100000 in
set_option maxHeartbeats 4000000 in
theorem cuts_any {W : World} {ov : Value} {ops : List OpD} {a a2 : Option Addr} {kc kc2 : Nat} {l l2 : List Bool} (s at_ : Int) (hs : inI64 s) (hat : inI64 at_) (ho : OpsAt W ov ops) (hk : BoolsAt W (.slice a l.length kc) l) (hl : l.length ≤ far) (hk2 : BoolsAt W (.slice a2 l2.length kc2) l2) (hl2 : l2.length ≤ far) :
    Calls Try.prog 7 #[.int .i64 s, ov, .int .i64 at_, .slice a l.length kc, .slice a2 l2.length kc2] W (Gives fun v w' => v = .bool true ∧ Keep (Old W) W w') := by
  have HM := Lib.hid (much_any (W := W) (sv := .slice none 0 0) (sizes := []) ⟨none, 0, rfl, by simp [maxLen], fun h => absurd rfl h⟩ (by simp [far]) (by simp) ho)
  have HO := Lib.hid ho
  have HKB := Lib.hid hk
  have HKB2 := Lib.hid hk2
  obtain ⟨oa, oc, rfl, -, -, -⟩ := ho
  unfold far at hl hl2
  have HS0 : Hid (Many W W 0 (fun _ => 0) (fun _ => B0) []) := Many.start0 _ _ _
  have HK25 : Hid (∀ w, Calls Try.prog 25 #[] w (Gives fun v w' => v = .bool true ∧ Keep (Old w) w w')) := fun w => known_any w
  clear hk hk2
  by_cases hok : sizeOk s
  · by_cases hs0 : s = 0
    · subst hs0
      by_cases hbig : 100000 < l.length
      · go_enter Try.func7, Try.ntmps7
        go_wp2_with (go_at_call 23; go_must (refine HM.out.mono ?_); rintro e w1 ⟨v, rfl, c, rfl, hk, hc⟩; have HK1 := Lib.hid hk; clear hk hc)
        all_goals go_ret
        all_goals exact ⟨_, rfl, rfl, (HS0.out.quiet HK1.out).old⟩
      · by_cases hbig2 : 100000 < l2.length
        · go_enter Try.func7, Try.ntmps7
          go_wp2_with (go_at_call 23; go_must (refine HM.out.mono ?_); rintro e w1 ⟨v, rfl, c, rfl, hk, hc⟩; have HK1 := Lib.hid hk; clear hk hc)
          all_goals go_ret
          all_goals exact ⟨_, rfl, rfl, (HS0.out.quiet HK1.out).old⟩
        · go_enter Try.func7, Try.ntmps7
          go_wp2_with (first | (go_at_call 23; go_must (refine HM.out.mono ?_); rintro e w1 ⟨v, rfl, c, rfl, hk, hc⟩; have HK1 := Lib.hid hk; clear hk hc) | (go_at_call 24; go_must (refine (new_one_ok (HS0.out.quiet HK1.out) hok).mono ?_); rintro e w2 ⟨v, rfl, b, rfl, hv⟩; have H2 := Lib.hid hv; clear hv) | (go_at_call 25; go_must (refine (HK25.out _).mono ?_); rintro e w3 ⟨v, rfl, rfl, hv⟩; have H3 := Lib.hid (Many.past H2.out hv); clear hv))
          · go_ret
            exact ⟨_, rfl, rfl, (HS0.out.quiet HK1.out).old⟩
          · go_ret
            exact ⟨_, rfl, rfl, H3.out.old⟩
    · have hs0b : (s == 0) = false := by simpa using hs0
      obtain ⟨hs1, hs2⟩ : 1 ≤ s ∧ s ≤ 8192 := by rcases hok with h | h
                                                 · exact absurd h hs0
                                                 · exact h
      obtain ⟨m, rfl⟩ : ∃ m : Nat, s = m := ⟨s.toNat, by omega⟩
      by_cases hbig : 100000 < l.length
      · go_enter Try.func7, Try.ntmps7
        go_wp2_with (go_at_call 23; go_must (refine HM.out.mono ?_); rintro e w1 ⟨v, rfl, c, rfl, hk, hc⟩; have HK1 := Lib.hid hk; clear hk hc)
        all_goals go_ret
        all_goals exact ⟨_, rfl, rfl, (HS0.out.quiet HK1.out).old⟩
      · by_cases hbig2 : 100000 < l2.length
        · go_enter Try.func7, Try.ntmps7
          go_wp2_with (go_at_call 23; go_must (refine HM.out.mono ?_); rintro e w1 ⟨v, rfl, c, rfl, hk, hc⟩; have HK1 := Lib.hid hk; clear hk hc)
          all_goals go_ret
          all_goals exact ⟨_, rfl, rfl, (HS0.out.quiet HK1.out).old⟩
        · have HST : Hid (∀ w b, Sole W b (By.fresh [(m : Int)] 1) [] w → CutsAt W b ops at_ m 0 w) := fun w b h => ⟨_, h, by simpa using cuts_start hs0, fresh_small _ _⟩
          go_enter Try.func7, Try.ntmps7
          go_wp2_with (first | (go_at_call 23; go_must (refine HM.out.mono ?_); rintro e w1 ⟨v, rfl, c, rfl, hk, hc⟩; have HC := Lib.hid hc; have HK1 := Lib.hid hk; clear hk hc) | (go_at_call 24; go_must (refine (new_one_ok (HS0.out.quiet HK1.out) hok).mono ?_); rintro e w2 ⟨v, rfl, b, rfl, hv⟩; have H2 := Lib.hid hv; clear hv) | (go_at_call 25; go_must (refine (HK25.out _).mono ?_); rintro e w3 ⟨v, rfl, rfl, hv⟩; have H3 : Hid (Sole W b (By.fresh [(m : Int)] 1) [] w3) := Many.past H2.out hv; clear hv))
          · go_ret
            exact ⟨_, rfl, rfl, (HS0.out.quiet HK1.out).old⟩
          · have hlen : ops.length ≤ 100000 := by have := HC.out (by first | assumption | simpa using ‹¬ c = true›); simpa using this
            have H4 := Lib.hid (HST.out _ _ H3.out)
            clear HC HM HS0 HK25 H2 H3 HK1 HST
            go_loopw [13] (fun t wr => ∃ (i : Nat), i ≤ ops.length ∧ t = .int .i64 i ∧ CutsAt W b ops at_ m i wr) (fun t _ => ops.length - (intOf t).toNat)
            case atStart => exact ⟨0, Nat.zero_le _, rfl, H4.out⟩
            case round =>
              obtain ⟨i, hi, rfl, B, hm, hcu, hB⟩ := hrel
              clear H4
              by_cases hlt : i < ops.length
              · obtain ⟨d, hd⟩ : ∃ d, ops[i]? = some d := ⟨_, List.getElem?_eq_getElem hlt⟩
                obtain ⟨bb, o, cap', hv, hda, hdc⟩ := HO.out.get hd
                have hdcw := hdc wr (Many.old hm)
                simp only [Value.slice.injEq, true_and] at hv
                obtain ⟨rfl, rfl⟩ := hv
                have hB6 := hB.mono (m' := 1000000) (by omega)
                have hB1 := Small.op hB 0 4 (fun D => D.write d.n d.bl) (fun D => write_cache D _ _)
                have hB2 := Small.op hB1 0 5 Dk.flush flush_cache
                have hB3 := Small.op hB 0 5 Dk.flush flush_cache
                have HWR : Hid (∀ w, Sole W b B [] w → Calls Try.prog 41 #[.pointer (some ⟨b, 0, none⟩), .int .i64 0, .int .i64 d.n, d.bv] w (Gives fun v w' => ∃ c, v = .int .u16 c ∧ Sole W b (B.op 0 4 (fun D => D.write d.n d.bl)) [] w')) := fun w h =>
                  Gives.imp (Sole.writeArg h hB6 0 d.n hda.b) fun v w' hg => ⟨_, hg.1, hg.2⟩
                have HFL : Hid (∀ w, Sole W b (B.op 0 4 (fun D => D.write d.n d.bl)) [] w → Calls Try.prog 42 #[.pointer (some ⟨b, 0, none⟩), .int .i64 0] w (Gives fun v w' => ∃ c, v = .int .u16 c ∧ CutsAt W b ops at_ m (i + 1) w')) := fun w h =>
                  Gives.imp (Sole.flush h (hB1.mono (by omega)) 0) fun v w' hg => ⟨_, hg.1, _, hg.2, cuts_write_flush hcu _ _, hB2.mono (by omega)⟩
                have HFL0 : Hid (∀ w, Sole W b B [] w → Calls Try.prog 42 #[.pointer (some ⟨b, 0, none⟩), .int .i64 0] w (Gives fun v w' => ∃ c, v = .int .u16 c ∧ CutsAt W b ops at_ m (i + 1) w')) := fun w h =>
                  Gives.imp (Sole.flush h hB6 0) fun v w' hg => ⟨_, hg.1, _, hg.2, cuts_flush hcu, hB3.mono (by omega)⟩
                have HNX : Hid (d.kind = 2 → at_ ≠ i → ∀ w, Sole W b (B.op 0 4 (fun D => D.write d.n d.bl)) [] w → CutsAt W b ops at_ m (i + 1) w) := fun h1 h2 w h => ⟨_, h, cuts_write hcu hd h1 h2, hB1.mono (by omega)⟩
                have HSK : Hid (at_ ≠ i → CutsAt W b ops at_ m (i + 1) wr) := fun h1 => ⟨B, hm, cuts_skip hcu h1, hB.mono (by omega)⟩
                obtain ⟨kind, slot, nn, bv, bl, kv, kl2⟩ := d
                obtain ⟨ba, bcap, hbv, -, -, -⟩ := hda.b
                simp only at hbv HWR HFL HNX
                subst hbv
                obtain ⟨⟨x0, x1, x2⟩, x3, x4⟩ := op_cells hdcw
                obtain ⟨hk1, hk2⟩ := hda.kind
                have HM0 := Lib.hid hm
                have HMD : Hid (Sole W b B [] wr.drew) := Many.quiet hm (Keep.drew _ _)
                clear hm hcu hB hB6 hda hdc hdcw hd hB1 hB2 hB3 HO HKB HKB2
                by_cases hk2' : kind = 2
                · subst hk2'
                  go_wp2
                  go_still_tail 11, (by kernel_rfl)
                  change wpList _ _ _ _ _ wr.drew
                  generalize wr.drew = wd at *
                  by_cases hat' : at_ = (i : Int)
                  · subst hat'
                    go_wp2_with (first | (go_at_call 41; go_must (refine (HWR.out _ HMD.out).mono ?_); rintro e w5 ⟨v, rfl, c, rfl, hv⟩; have H5 := Lib.hid hv; clear hv) | (go_at_call 42; go_must (refine (HFL.out _ H5.out).mono ?_); rintro e w6 ⟨v, rfl, c, rfl, hv⟩; have H6 := Lib.hid hv; clear hv))
                    exact ⟨⟨i + 1, by omega, by go_num, H6.out⟩, by simp [intOf]; omega⟩
                  · have hatb : ((i : Int) == at_) = false := by simp; omega
                    go_wp2_with (go_at_call 41; go_must (refine (HWR.out _ HMD.out).mono ?_); rintro e w5 ⟨v, rfl, c, rfl, hv⟩; have H5 := Lib.hid hv; clear hv)
                    exact ⟨⟨i + 1, by omega, by go_num, HNX.out trivial hat' _ H5.out⟩, by simp [intOf]; omega⟩
                · have hkb : (kind == 2) = false := by simpa using hk2'
                  by_cases hat' : at_ = (i : Int)
                  · subst hat'
                    go_wp2_with (go_at_call 42; go_must (refine (HFL0.out _ HM0.out).mono ?_); rintro e w6 ⟨v, rfl, c, rfl, hv⟩; have H6 := Lib.hid hv; clear hv)
                    exact ⟨⟨i + 1, by omega, by go_num, H6.out⟩, by simp [intOf]; omega⟩
                  · have hatb : ((i : Int) == at_) = false := by simp; omega
                    go_wp2
                    exact ⟨⟨i + 1, by omega, by go_num, HSK.out hat'⟩, by simp [intOf]; omega⟩
              · obtain rfl : i = ops.length := by omega
                have hBm := hB.mono (m' := 1000000) (by omega)
                obtain ⟨Bf, hcf, hcache, hsf, hway⟩ : ∃ Bf, Cuts ops at_ m ops.length Bf ∧ (at_ < ops.length ∨ ∀ D, Bf.dev 0 = some ⟨D, false, 0⟩ → D.cache = []) ∧ Bf.Small 1000000 ∧
                    ((at_ < ops.length ∧ Sole W b Bf [] wr) ∨ (¬ at_ < ops.length ∧ Calls Try.prog 42 #[.pointer (some ⟨b, 0, none⟩), .int .i64 0] wr (Gives fun v w' => ∃ c, v = .int .u16 c ∧ Sole W b Bf [] w'))) := by
                  by_cases h : at_ < ops.length
                  · exact ⟨B, hcu, .inl h, hBm, .inl ⟨h, hm⟩⟩
                  · obtain ⟨D, h1, h2, -⟩ := hcu.d0
                    exact ⟨_, cuts_flush hcu, .inr (flush_empties hcu.n hcu.calm h1 h2), (Small.op hB 0 5 Dk.flush flush_cache).mono (by omega), .inr ⟨h, Gives.imp (Sole.flush hm hBm 0) fun v w' hg => ⟨_, hg.1, hg.2⟩⟩⟩
                obtain ⟨la, lw, hce, ⟨i1, i2⟩, ⟨j1, j2⟩, ⟨k1, k2, k3⟩⟩ := cuts_end hcf hcache [(.slice a l.length kc, l)] [(.slice a2 l2.length kc2, l2), (.slice a l.length kc, l)]
                have hs1' := Small.cutg hsf (by omega) [(.slice a l.length kc, l)]
                have hs2' := Small.cutg hs1' (by omega) [(.slice a2 l2.length kc2, l2), (.slice a l.length kc, l)]
                have hla := hce.hla
                have hlw := hce.hlw
                obtain ⟨n, hn⟩ : ∃ n, n = 128 * m := ⟨_, rfl⟩
                rw [← hn] at hla hlw
                have HIM1 : Hid (∀ w, Sole W b Bf [] w → Calls Try.prog 34 #[.pointer (some ⟨b, 0, none⟩), .int .i64 0] w (Gives fun v w' => ∃ x cap, v = .tuple #[.slice x n cap, .int .u16 0] ∧ Sole W b Bf [(.slice x n cap, la)] w')) := fun w h => by have := Sole.image h 0 i2 i1; rw [hla] at this; exact this
                have HCU1 : Hid (∀ w L, Sole W b Bf L w → Calls Try.prog 33 #[.pointer (some ⟨b, 0, none⟩), .slice (some ⟨w.heap.size, 0, none⟩) 1 1] (w.alloc (.cells #[.slice a l.length kc] 57)) (Gives fun v w' => v = .tuple #[] ∧ Sole W b (Bf.cutg [(.slice a l.length kc, l)]) L w')) := fun w L h =>
                  Sole.cutRow h hsf (kl := [(.slice a l.length kc, l)]) (by simpa using HKB.out) (by simp [far]) rfl rfl
                generalize Bf.cutg [(.slice a l.length kc, l)] = B1 at *
                have HIM2 : Hid (∀ w L, Sole W b B1 L w → Calls Try.prog 34 #[.pointer (some ⟨b, 0, none⟩), .int .i64 0] w (Gives fun v w' => ∃ x cap, v = .tuple #[.slice x n cap, .int .u16 0] ∧ Sole W b B1 ((.slice x n cap, lw) :: L) w')) := fun w L h => by have := Sole.image h 0 j2 j1; rw [hlw] at this; exact this
                have HCU2 : Hid (∀ w L, Sole W b B1 L w → Calls Try.prog 33 #[.pointer (some ⟨b, 0, none⟩), .slice (some ⟨w.heap.size, 0, none⟩) 2 2] (w.alloc (.cells #[.slice a2 l2.length kc2, .slice a l.length kc] 57)) (Gives fun v w' => v = .tuple #[] ∧ Sole W b (B1.cutg [(.slice a2 l2.length kc2, l2), (.slice a l.length kc, l)]) L w')) := fun w L h =>
                  Sole.cutRow h hs1' (kl := [(.slice a2 l2.length kc2, l2), (.slice a l.length kc, l)]) (fun q hq => by
                    rcases List.mem_cons.1 hq with rfl | hq
                    · exact HKB2.out
                    · obtain rfl : q = _ := by simpa using hq
                      exact HKB.out) (by simp [far]) rfl rfl
                generalize B1.cutg [(.slice a2 l2.length kc2, l2), (.slice a l.length kc, l)] = B2 at *
                have HIM3 : Hid (∀ w L, Sole W b B2 L w → Calls Try.prog 34 #[.pointer (some ⟨b, 0, none⟩), .int .i64 0] w (Gives fun v w' => ∃ x cap, v = .tuple #[.slice x n cap, .int .u16 0] ∧ Sole W b B2 ((.slice x n cap, lw) :: L) w')) := fun w L h => by have := Sole.image h 0 k2 k1; rw [hlw] at this; exact this
                have HPE : Hid (∀ w L, Sole W b B2 L w → Calls Try.prog 40 #[.pointer (some ⟨b, 0, none⟩), .int .i64 0] w (Gives fun v w' => ∃ x cap, v = .slice x 0 cap ∧ Sole W b B2 L w')) := fun w L h => by have := Sole.pending h hs2' 0; rw [k3] at this; exact this
                have HSA : Hid (∀ w L (v1 v2 : Value), Sole W b B2 L w → (v1, lw) ∈ L → (v2, lw) ∈ L → Calls Try.prog 19 #[v1, v2] w (Gives fun v w' => v = .bool true ∧ Sole W b B2 L w')) := fun w L v1 v2 h m1 m2 =>
                  Gives.imp (Many.same h m1 m2) fun v w' hg => ⟨hg.1.trans (by simp), hg.2.1⟩
                have HCE := Lib.hid hce
                have HN := Lib.hid hn
                have HLA := Lib.hid hla
                have HLW := Lib.hid hlw
                clear hn hla hlw hm hcu hB hBm hcf hcache hsf hce i1 i2 j1 j2 k1 k2 k3 hs1' hs2' HKB HKB2 hlt
                rcases hway with ⟨hat', hway⟩ | ⟨hat', hway⟩ <;> have KW := Lib.hid hway <;> clear hway
                all_goals go_wp2_with (first | (go_at_call 34; refine (HIM3.out _ _ K4.out).mono ?_; rintro e w10 ⟨v, rfl, x3, c3, rfl, hv⟩; have K5 := Lib.hid hv; clear hv) | (go_at_call 34; refine (HIM2.out _ _ K2.out).mono ?_; rintro e w8 ⟨v, rfl, x2, c2, rfl, hv⟩; have K3 := Lib.hid hv; clear hv) | (go_at_call 34; (first | refine (HIM1.out _ K0.out).mono ?_ | refine (HIM1.out _ KW.out).mono ?_); rintro e w6 ⟨v, rfl, x1, c1, rfl, hv⟩; have K1 := Lib.hid hv; clear hv) |
                    (go_at_call 33; refine (HCU2.out _ _ K3.out).mono ?_; rintro e w9 ⟨v, rfl, rfl, hv⟩; have K4 := Lib.hid hv; clear hv) | (go_at_call 33; go_must (refine (HCU1.out _ _ K1.out).mono ?_); rintro e w7 ⟨v, rfl, rfl, hv⟩; have K2 := Lib.hid hv; clear hv) |
                    (go_at_call 19; go_must (refine (HSA.out _ _ _ _ K5.out (List.mem_cons_of_mem _ List.mem_cons_self) List.mem_cons_self).mono ?_); rintro e w11 ⟨v, rfl, rfl, hv⟩; have K6 := Lib.hid hv; clear hv) | (go_at_call 40; go_must (refine (HPE.out _ _ K6.out).mono ?_); rintro e w12 ⟨v, rfl, x8, cap8, rfl, hv⟩; have K8 := Lib.hid hv; clear hv) |
                    (go_at_call 42; go_must (refine KW.out.mono ?_); rintro e w5 ⟨v, rfl, c5, rfl, hv⟩; have K0 := Lib.hid hv; clear hv))
                all_goals obtain ⟨g2, o2, rfl, hc2, hc2', hsec2⟩ := Sole.sectorsAt K8.out (List.mem_cons_of_mem _ List.mem_cons_self) HLW.out HN.out (by omega)
                all_goals obtain ⟨g1, o1, rfl, hc1, hc1', hsec1⟩ := Sole.sectorsAt K8.out (List.mem_cons_of_mem _ (List.mem_cons_of_mem _ List.mem_cons_self)) HLA.out HN.out (by omega)
                all_goals have HSEC1 := Lib.hid hsec1
                all_goals have HSEC2 := Lib.hid hsec2
                all_goals have HOLD := Lib.hid (Many.old K8.out)
                all_goals clear hat' hsec1 hsec2 KW K1 K2 K3 K4 K5 K6 K8 HIM1 HIM2 HIM3 HCU1 HCU2 HPE HSA HLA HLW HN
                all_goals unfold maxLen at hc1' hc2'
                all_goals (
                  go_loopw [20] (fun t wr => ∃ k : Nat, k ≤ m ∧ t = .int .i64 k ∧ Keep NoF w12 wr) (fun t _ => m - (intOf t).toNat)
                  case atStart => exact ⟨0, Nat.zero_le _, rfl, Keep.refl _ _⟩
                  case round =>
                    obtain ⟨k, hk, rfl, hkeep⟩ := hrel
                    by_cases hkm : k < m
                    · have hw1 : IntKind.i64.wrap (128 * (k : Int)) = 128 * k := IntWalk.i64_in _ (by omega)
                      have hw2 : IntKind.i64.wrap (128 * ((k : Int) + 1)) = 128 * (k + 1) := IntWalk.i64_in _ (by omega)
                      have HSM := Lib.hid (same_any (HSEC2.out wr hkeep k hkm) (HSEC1.out wr hkeep k hkm))
                      go_wp2_with (go_at_call 19; go_must (refine HSM.out.mono ?_); rintro e wi ⟨v, rfl, rfl, hv⟩; have HKI := Lib.hid (hkeep.trans' hv); clear hv)
                      clear HSM hkeep
                      go_loopw [22, 23] (fun t22 t wr => ∃ i : Nat, i ≤ ops.length ∧ t = .int .i64 i ∧ IsAt ops at_ k la lw i t22 ∧ Keep NoF w12 wr) (fun _ t _ => ops.length - (intOf t).toNat)
                      case atStart => exact ⟨0, Nat.zero_le _, rfl, ⟨_, rfl, fun h => ⟨by simpa using h, fun ⟨j, d, h1, _⟩ => by omega⟩⟩, HKI.out⟩
                      case round =>
                        obtain ⟨i, hi, rfl, ⟨is, rfl, his⟩, hkeep⟩ := hrel
                        by_cases hgo : i < ops.length ∧ at_ < ops.length
                        · obtain ⟨hlt, hat2⟩ := hgo
                          (first | (exfalso; omega) | skip) <;> (
                            cases is with
                            | true =>
                              clear his
                              go_wp2
                              exact ⟨⟨i + 1, by omega, by go_num, ⟨true, rfl, fun h => by cases h⟩, hkeep⟩, by simp [intOf]; omega⟩
                            | false =>
                              obtain ⟨hns, hnw⟩ := his rfl
                              obtain ⟨d, hd⟩ : ∃ d, ops[i]? = some d := ⟨_, List.getElem?_eq_getElem hlt⟩
                              obtain ⟨bb, o, cap', hv, hda, hdc⟩ := HO.out.get hd
                              have hWwr : Keep (Old W) W wr := HOLD.out.ofNoF hkeep
                              have hdcw := hdc wr hWwr
                              simp only [Value.slice.injEq, true_and] at hv
                              obtain ⟨rfl, rfl⟩ := hv
                              have HSM := Lib.hid (same_any (HSEC2.out wr hkeep k hkm) (hda.b.old hWwr))
                              have HN : Hid (¬ (d.kind = 2 ∧ at_ < (i : Int) ∧ d.n = (k : Int) ∧ sector lw k = d.bl) → sector lw k ≠ sector la k ∧ ¬ Wrote ops at_ (i + 1) k (sector lw k)) := fun h => ⟨hns, fun ⟨j, x, a1, a2, a3, a4, a5, a6⟩ => by
                                by_cases e : j = i
                                · subst e
                                  rw [hd] at a2
                                  obtain rfl := Option.some.inj a2
                                  exact h ⟨a3, a6, a4, a5.symm⟩
                                · exact hnw ⟨j, x, by omega, a2, a3, a4, a5, a6⟩⟩
                              obtain ⟨kind, slot, nn, bv, bl, kv, kl2⟩ := d
                              obtain ⟨ba, bcap, hbv, -, -, -⟩ := hda.b
                              simp only at hbv HSM HN
                              subst hbv
                              obtain ⟨⟨x0, x1, x2⟩, x3, x4⟩ := op_cells hdcw
                              clear hda hdc hdcw hd hns hnw his hWwr
                              by_cases h1 : kind = 2
                              · subst h1
                                by_cases h2 : at_ < (i : Int)
                                · by_cases h3 : nn = (k : Int)
                                  · subst h3
                                    have HK := Lib.hid hkeep
                                    clear hkeep
                                    go_wp2_with (go_at_call 19; go_must (refine HSM.out.mono ?_); rintro e wj ⟨v, rfl, rfl, hv⟩; have HKJ := Lib.hid (HK.out.trans' hv); clear hv)
                                    exact ⟨⟨i + 1, by omega, by go_num, ⟨_, rfl, fun hf => HN.out (fun ⟨_, _, _, h⟩ => by simp [h] at hf)⟩, HKJ.out⟩, by simp [intOf]; omega⟩
                                  · have h3b : (nn == (k : Int)) = false := by simpa using h3
                                    go_wp2
                                    exact ⟨⟨i + 1, by omega, by go_num, ⟨_, rfl, fun _ => HN.out (fun ⟨_, _, h, _⟩ => h3 h)⟩, hkeep⟩, by simp [intOf]; omega⟩
                                · go_wp2
                                  exact ⟨⟨i + 1, by omega, by go_num, ⟨_, rfl, fun _ => HN.out (fun ⟨_, h, _, _⟩ => h2 h)⟩, hkeep⟩, by simp [intOf]; omega⟩
                              · have h1b : (kind == 2) = false := by simpa using h1
                                go_wp2
                                exact ⟨⟨i + 1, by omega, by go_num, ⟨_, rfl, fun _ => HN.out (fun ⟨h, _, _, _⟩ => h1 h)⟩, hkeep⟩, by simp [intOf]; omega⟩)
                        · obtain rfl : is = true := by
                            cases is with
                            | true => rfl
                            | false =>
                              obtain ⟨hns, hnw⟩ := his rfl
                              rcases HCE.out.sec k hkm with h | ⟨h1, h2⟩
                              · exact absurd h hns
                              · obtain rfl : i = ops.length := by omega
                                exact absurd h2 hnw
                          clear his
                          by_cases hlt : i < ops.length
                          · have hat3 : ¬ at_ < ops.length := fun h => hgo ⟨hlt, h⟩
                            clear hgo
                            (first | (exfalso; omega) | skip) <;> (
                              go_wp2
                              exact ⟨⟨k + 1, by omega, by go_num, hkeep⟩, by simp [intOf]; omega⟩)
                          · clear hgo
                            go_wp2
                            exact ⟨⟨k + 1, by omega, by go_num, hkeep⟩, by simp [intOf]; omega⟩
                    · go_wp2
                      go_ret
                      exact ⟨_, rfl, rfl, HOLD.out.ofNoF hkeep⟩)
  · by_cases hbig : 100000 < l.length
    · go_enter Try.func7, Try.ntmps7
      go_wp2_with (go_at_call 23; go_must (refine HM.out.mono ?_); rintro e w1 ⟨v, rfl, c, rfl, hk, hc⟩; have HK1 := Lib.hid hk; clear hk hc)
      all_goals go_ret
      all_goals exact ⟨_, rfl, rfl, (HS0.out.quiet HK1.out).old⟩
    · by_cases hbig2 : 100000 < l2.length
      · go_enter Try.func7, Try.ntmps7
        go_wp2_with (go_at_call 23; go_must (refine HM.out.mono ?_); rintro e w1 ⟨v, rfl, c, rfl, hk, hc⟩; have HK1 := Lib.hid hk; clear hk hc)
        all_goals go_ret
        all_goals exact ⟨_, rfl, rfl, (HS0.out.quiet HK1.out).old⟩
      · go_enter Try.func7, Try.ntmps7
        go_wp2_with (first | (go_at_call 23; go_must (refine HM.out.mono ?_); rintro e w1 ⟨v, rfl, c, rfl, hk, hc⟩; have HK1 := Lib.hid hk; clear hk hc) | (go_at_call 24; go_must (refine (new_one_bad (HS0.out.quiet HK1.out) hok).mono ?_); rintro e w2 ⟨v, rfl, rfl, hv⟩; have H2 := Lib.hid hv; clear hv) | (go_at_call 25; go_must (refine (HK25.out _).mono ?_); rintro e w3 ⟨v, rfl, rfl, hv⟩; have H3 := Lib.hid (Many.past H2.out hv); clear hv))
        · go_ret
          exact ⟨_, rfl, rfl, (HS0.out.quiet HK1.out).old⟩
        · go_ret
          exact ⟨_, rfl, rfl, H3.out.old⟩
end Go.Proofs.Ytghnbbpoaeheaaa
