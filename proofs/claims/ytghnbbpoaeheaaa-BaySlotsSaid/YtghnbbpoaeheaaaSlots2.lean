/- BaySlots, walked whole. -/
import Derived.Test.YtghnbbpoaeheaaaSlots
import Derived.IntWalk
namespace Go.Proofs.Ytghnbbpoaeheaaa
open Go.RowKit

theorem slots_x {W w1 w2 : World} {b : Nat} {B : By} (h : Sole W b B [] w1) (ho : w2.heap[w1.heap.size]? = some (.cells (u8s (List.replicate 128 0)).toArray 5 (0, 0))) (hg : w1.grownBy w2 none) :
    Sole W b B [(.slice (some ⟨w1.heap.size, 0, none⟩) 128 128, xs77)] (w2.setCell ⟨w1.heap.size, 9, none⟩ (.int .u8 77)) := by
  refine Many.fresh h (Keep.grown hg (fun _ h => by cases h)) (Keep.setCell (F := (· = w1.heap.size)) w2 ⟨w1.heap.size, 9, none⟩ (.int .u8 77) rfl) ?_
  have := heap_setCell_same w2 w1.heap.size 9 _ _ (.int .u8 77) ho
  have e : (u8s (List.replicate 128 0)).toArray.setIfInBounds 9 (.int .u8 77) = (u8s xs77).toArray := by
    simp [u8s, xs77, List.map_set]
  rw [e] at this
  exact ownB_row (l := xs77) this (by simp [xs77, maxLen])
theorem ownI_zero {w : World} {base : Nat} {v : Value} {l : List Int} (h : OwnI w base v l) : OwnI w 0 v l := by
  obtain ⟨h1, h2⟩ := h
  refine ⟨h1, ?_⟩
  rcases h2 with h2 | ⟨g, cap, cur, hv, hg, r⟩
  · exact .inl h2
  · exact .inr ⟨g, cap, cur, hv, Nat.zero_le _, r⟩
section
variable {W w : World} {b : Nat} {B : By} {L : List (Value × List Int)} {lv : Value} {p : List Int} {s : Nat} {z c : Int} {im : List Int}
theorem Held.image (h : Held W b B L lv p w) (hd : Said s z c im p B) : Calls Try.prog 34 #[.pointer (some ⟨b, 0, none⟩), .int .i64 s] w (Gives fun v w' => ∃ x cap, v = .tuple #[.slice x im.length cap, .int .u16 c] ∧ Held W b B ((.slice x im.length cap, im) :: L) lv p w') := by
  obtain ⟨F, hb, hF, hst⟩ := h.step
  refine Gives.imp (bimage_any hb s) fun v w' hg => ?_
  obtain ⟨s0, rfl, ho, hk⟩ := hg
  rw [hd.code]
  rw [hd.image] at ho
  obtain ⟨x, cap, rfl⟩ := own_form ho
  have h2 := h.quiet hk
  exact ⟨x, cap, rfl, Many.mem h2.1 (ho.mono (Nat.zero_le _)), h2.2⟩
theorem Held.pend (h : Held W b B L lv p w) (hs : B.Small 1000000) (hd : Said s z c im p B) : Calls Try.prog 40 #[.pointer (some ⟨b, 0, none⟩), .int .i64 s] w (Gives fun v w' => ∃ x cap, v = .slice x p.length cap ∧ Held W b B L lv p w' ∧ OwnI w' 0 (.slice x p.length cap) p) := by
  obtain ⟨F, hb, hF, hst⟩ := h.step
  refine Gives.imp (bpending_any hb s (fun d hd => by have := Small.of_in hs hd; omega)) fun v w' hg => ?_
  obtain ⟨ho, hk⟩ := hg
  rw [hd.pending] at ho
  obtain ⟨x, cap, rfl⟩ := own_form ho
  exact ⟨x, cap, rfl, h.quiet hk, ownI_zero ho⟩
theorem Held.same (h : Held W b B L lv p w) {v1 v2 : Value} {l : List Int} (m1 : (v1, l) ∈ L) (m2 : (v2, l) ∈ L) : Calls Try.prog 19 #[v1, v2] w (Gives fun v w' => v = .bool true ∧ Held W b B L lv p w') :=
  Gives.imp (same_any (Many.bytes h.1 m1) (Many.bytes h.1 m2)) fun v w' hg => ⟨hg.1.trans (by simp), h.quiet hg.2⟩
theorem Held.sameInts (h : Held W b B L lv p w) {v2 : Value} (h2 : OwnI w 0 v2 p) : Calls Try.prog 50 #[lv, v2] w (Gives fun v w' => v = .bool true ∧ Held W b B L lv p w') :=
  Gives.imp (sameInts_any (intsAt_of_own h.2) (intsAt_of_own h2)) fun v w' hg => ⟨hg.1.trans (by simp), h.quiet hg.2⟩
theorem Held.has (h : Held W b B L lv p w) (hd : Said s z c im p B) : Calls Try.prog 27 #[.pointer (some ⟨b, 0, none⟩), .int .i64 s] w fun e w' => e = .returned (.bool (decide (0 < z))) ∧ w = w' := by
  have := Sole.has h.1 (s : Int)
  rw [hd.has] at this
  exact this
theorem Held.sectors (h : Held W b B L lv p w) (hd : Said s z c im p B) : Calls Try.prog 45 #[.pointer (some ⟨b, 0, none⟩), .int .i64 s] w fun e w' => e = .returned (.int .i64 z) ∧ w = w' := by
  have := Sole.sectors h.1 (s : Int)
  rw [hd.sectors] at this
  exact this
end
theorem tmod_slot {x : Int} {n : Nat} (hn : 1 ≤ n) : ∃ s : Nat, s < n ∧ (Int.tmod x n = (s : Int) ∨ (Int.tmod x n = -(s : Int) ∧ 1 ≤ s)) := by
  have h1 : (Int.tmod x n).natAbs < n := by
    rw [Int.natAbs_tmod]
    have := Nat.mod_lt x.natAbs (show 0 < n by omega)
    simpa using this
  by_cases h0 : 0 ≤ Int.tmod x n
  · exact ⟨(Int.tmod x n).natAbs, h1, .inl (by omega)⟩
  · exact ⟨(Int.tmod x n).natAbs, h1, .inr ⟨by omega, by omega⟩⟩

set_option maxRecDepth 100000 in
set_option maxHeartbeats 4000000 in
theorem slots_any {W : World} {sv ov : Value} {sizes : List Int} {ops : List OpD} (slot : Int) (hslot : inI64 slot) (hs : IntsAt W sv sizes) (hsl : sizes.length ≤ far) (hsi : ∀ s ∈ sizes, inI64 s) (ho : OpsAt W ov ops) :
    Calls Try.prog 10 #[sv, ov, .int .i64 slot] W (Gives fun v w' => v = .bool true ∧ Keep (Old W) W w') := by
  have HM := Lib.hid (much_any (W := W) hs hsl hsi ho)
  have HO := Lib.hid ho
  have HSZ := Lib.hid hs
  obtain ⟨oa, oc, rfl, -, -, -⟩ := ho
  obtain ⟨sa, sc, rfl, -, hsr⟩ := hs
  have HS0 : Hid (Many W W 0 (fun _ => 0) (fun _ => B0) []) := Many.start0 _ _ _
  have HK25 : Hid (∀ w, Calls Try.prog 25 #[] w (Gives fun v w' => v = .bool true ∧ Keep (Old w) w w')) := fun w => known_any w
  clear hsi
  by_cases hok : sizesOk sizes
  · have hm17 : sizes.length ≤ 17 := hok.2.1
    have hm1 : 1 ≤ sizes.length := hok.1
    have HNG : Hid (∀ (w : World), Many W w 0 (fun _ => 0) (fun _ => B0) [] → Calls Try.prog 24 #[.slice sa sizes.length sc] w (Gives fun r w' => ∃ b, r = .tuple #[.pointer (some ⟨b, 0, none⟩), .int .u16 0] ∧ Sole W b (By.fresh sizes sizes.length) [] w')) := fun w h => Gives.imp (h.new_ok HSZ.out hok) fun v w' hg => by
      obtain ⟨b, h1, F, k1, k2, k3, k4, k5⟩ := hg
      refine ⟨b, h1, F, fun i hi => ?_, k2, k3, k4, k5⟩
      have := k1 i hi
      obtain rfl : i = 0 := by omega
      exact this
    obtain ⟨sb, so, rfl, hsr2⟩ := hsr (by rintro rfl; simp at hm1)
    obtain ⟨s, hsn, hts⟩ := tmod_slot (x := slot) hm1
    obtain ⟨z, hz⟩ : ∃ z, sizes[s]? = some z := ⟨_, List.getElem?_eq_getElem hsn⟩
    have HCE : Hid (∀ w, Keep (Old W) W w → w.cell? ⟨sb, so + s, none⟩ = some (.int .i64 z)) := fun w hk => hk.old (hsr2 s _ (by simp [ints, hz]))
    obtain ⟨e, c0, im, p, hst, hsaid⟩ := slots_start sizes hz (hok.2.2 z (List.mem_of_getElem? hz)) xs77
    have hfs : (By.fresh sizes sizes.length).Small 1000000 := (fresh_small _ _).mono (by omega)
    have hfs1 := Small.op (fresh_small sizes sizes.length) s 4 (fun D => D.write 0 xs77) (fun D => write_cache D _ _)
    generalize By.fresh sizes sizes.length = F at *
    have HWR : Hid (∀ w (g : Nat), Sole W g F [] w → True) := fun _ _ _ => trivial
    have HWX : Hid (∀ w b v, Sole W b F [(v, xs77)] w → Calls Try.prog 41 #[.pointer (some ⟨b, 0, none⟩), .int .i64 s, .int .i64 0, v] w (Gives fun v0 w' => ∃ c, v0 = .int .u16 c ∧ Sole W b (F.op s 4 (fun D => D.write 0 xs77)) [] w')) := fun w b v h =>
      Gives.imp (Many.write h 0 (by omega) hfs s 0 v xs77 (List.mem_singleton.2 rfl)) fun v w' hg => ⟨_, hg.1, (hg.2.1.less (fun q hq => by cases hq)).one⟩
    have HST : Hid (Slots s sizes.length e (F.op s 4 (fun D => D.write 0 xs77)) ∧ Said s z c0 im p (F.op s 4 (fun D => D.write 0 xs77))) := ⟨hst, hsaid⟩
    have HS1 := Lib.hid hfs1
    have HIM : Hid (∀ w b, Sole W b (F.op s 4 (fun D => D.write 0 xs77)) [] w → Calls Try.prog 34 #[.pointer (some ⟨b, 0, none⟩), .int .i64 s] w (Gives fun v w' => ∃ x cap, v = .tuple #[.slice x im.length cap, .int .u16 c0] ∧ Sole W b (F.op s 4 (fun D => D.write 0 xs77)) [(.slice x im.length cap, im)] w')) := fun w b h => Sole.image h s hsaid.code hsaid.image
    have HPN : Hid (∀ w b L, Sole W b (F.op s 4 (fun D => D.write 0 xs77)) L w → Calls Try.prog 40 #[.pointer (some ⟨b, 0, none⟩), .int .i64 s] w (Gives fun v w' => ∃ y cap, v = .slice y p.length cap ∧ Held W b (F.op s 4 (fun D => D.write 0 xs77)) L (.slice y p.length cap) p w')) := fun w b L h => by
      obtain ⟨F0, hb, hF, hst2⟩ := Many.step h 0 (by omega)
      refine Gives.imp (bpending_any hb s (fun d hd => by have := Small.of_in hfs1 hd; omega)) fun v w' hg => ?_
      obtain ⟨ho, hk⟩ := hg
      rw [hsaid.pending] at ho
      obtain ⟨x, cap, rfl⟩ := own_form ho
      exact ⟨x, cap, rfl, Many.quiet h hk, ownI_zero ho⟩
    generalize F.op s 4 (fun D => D.write 0 xs77) = F1 at *
    clear hsr hsr2 hok hst hsaid hfs hfs1 HWR HSZ hz
    have hs17 : s < 17 := by omega
    rcases hts with hts | ⟨hts, hs1⟩
    all_goals
      go_enter Try.func10, Try.ntmps10
      go_wp2_with (first | (go_at_call 23; go_must (refine HM.out.mono ?_); rintro e w1 ⟨v, rfl, c, rfl, hk, hc⟩; have HC := Lib.hid hc; have HK1 := Lib.hid hk; clear hk hc) | (go_at_call 24; go_must (refine (HNG.out _ (HS0.out.quiet HK1.out)).mono ?_); rintro e w3 ⟨v, rfl, b, rfl, hv⟩; have H3 := Lib.hid hv; clear hv) | (go_at_call 25; go_must (refine (HK25.out _).mono ?_); rintro e w5 ⟨v, rfl, rfl, hv⟩; have H5 : Hid (Sole W b F [] w5) := Many.past H3.out hv; clear hv) |
        (at_make; go_must (refine wpList_make22f rfl _ _ rfl _ 128 rfl rfl (by rfl) (by omega) ?_); intro w2 ho hg; have H6 := Lib.hid (slots_x H5.out ho hg); have c9 : w2.cell? ⟨w5.heap.size, 9, none⟩ = some (.int .u8 0) := cell_at ho 9 rfl; have f9 := free_at ho 9; clear ho hg) |
        (go_at_call 41; go_must (refine (HWX.out _ _ _ H6.out).mono ?_); rintro e w6 ⟨v, rfl, c6, rfl, hv⟩; have H7 := Lib.hid hv; clear hv) |
        (go_at_call 34; go_must (refine (HIM.out _ _ H7.out).mono ?_); rintro e w7 ⟨v, rfl, x, xc, rfl, hv⟩; have H8 := Lib.hid hv; clear hv) |
        (go_at_call 40; go_must (refine (HPN.out _ _ _ H8.out).mono ?_); rintro e w8 ⟨v, rfl, y, yc, rfl, hv⟩; have H9 := Lib.hid hv; clear hv))
      · go_ret
        exact ⟨_, rfl, rfl, (HS0.out.quiet HK1.out).old⟩
      · have hlen : ops.length ≤ 100000 := by have := HC.out (by first | assumption | simpa using ‹¬ c = true›); omega
        have HA0 : Hid (SlotsAt W b s sizes.length e [(.slice x im.length xc, im)] (.slice y p.length yc) p 0 w8) := ⟨F1, H9.out, HST.out.1, HS1.out.mono (by omega)⟩
        have HSD : Hid (∀ B, Slots s sizes.length e B → Said s z c0 im p B) := fun B h => slots_said HST.out.1 h hsn HST.out.2
        clear HC HM HS0 HK25 HNG H3 H5 H6 H7 H8 H9 HK1 HST HS1 HWX HIM HPN hts hslot
        go_loopw [14] (fun t wr => ∃ i : Nat, i ≤ ops.length ∧ t = .int .i64 i ∧ SlotsAt W b s sizes.length e [(.slice x im.length xc, im)] (.slice y p.length yc) p i wr) (fun t _ => ops.length - (intOf t).toNat)
        case atStart => exact ⟨0, Nat.zero_le _, rfl, HA0.out⟩
        case round =>
          obtain ⟨i, hi, rfl, hat⟩ := hrel
          clear HA0
          by_cases hlt : i < ops.length
          · obtain ⟨d, hd⟩ : ∃ d, ops[i]? = some d := ⟨_, List.getElem?_eq_getElem hlt⟩
            have hold : Keep (Old W) W wr := by obtain ⟨B, h, _⟩ := id hat; exact Many.old h.1
            obtain ⟨bb, o, cap, hv, hda, hdc⟩ := HO.out.get hd
            have hdc := hdc wr hold
            simp only [Value.slice.injEq, true_and] at hv
            obtain ⟨rfl, rfl⟩ := hv
            obtain ⟨kind, slot2, nn, bv, bl, kv, kl2⟩ := d
            obtain ⟨ba, bcap, hbv, -, -, -⟩ := hda.b
            obtain ⟨ka2, kcap, hkv, -, -, -⟩ := hda.k
            simp only at hbv hkv
            subst hbv
            subst hkv
            obtain ⟨⟨x0, x1, x2⟩, x3, x4⟩ := op_cells hdc
            obtain ⟨hk1, hk2⟩ := hda.kind
            have HNX : Hid (SlotsAt W b s sizes.length e [(.slice x im.length xc, im)] (.slice y p.length yc) p (i + 1) (wr.alloc (.cells #[.int .i64 kind, .int .i64 slot2, .int .i64 nn, .slice ba bl.length bcap, .slice ka2 kl2.length kcap] 69))) := by
              obtain ⟨B, h1, h2, h3⟩ := hat
              exact ⟨B, h1.quiet (Keep.alloc _ _ _), h2, h3.mono (by omega)⟩
            by_cases hss : slot2 = (s : Int)
            · subst hss
              clear hat hda hdc hd hold HO HSD HCE
              go_wp2
              exact ⟨⟨i + 1, by omega, by go_num, HNX.out⟩, by simp [intOf]; omega⟩
            · have hssb : (slot2 == (s : Int)) = false := by simpa using hss
              have hrf := slots_round hat (Keep.alloc NoF wr (.cells #[.int .i64 kind, .int .i64 slot2, .int .i64 nn, .slice ba bl.length bcap, .slice ka2 kl2.length kcap] 69)) hda hss (by omega)
              have HPL : Hid (Calls Try.prog 28 #[.pointer (some ⟨b, 0, none⟩), .agg #[.int .i64 kind, .int .i64 slot2, .int .i64 nn, .slice ba bl.length bcap, .slice ka2 kl2.length kcap]] (wr.alloc (.cells #[.int .i64 kind, .int .i64 slot2, .int .i64 nn, .slice ba bl.length bcap, .slice ka2 kl2.length kcap] 69)) (Gives fun v w' => ∃ s0 c, v = .tuple #[s0, .int .u16 c] ∧ SlotsAt W b s sizes.length e [(.slice x im.length xc, im)] (.slice y p.length yc) p (i + 1) w')) := hrf.plain
              have HFL := Lib.hid hrf.fail
              have HWE := Lib.hid hrf.wear
              have HSW := Lib.hid hrf.swap
              have HLD := Lib.hid hrf.load
              have HPU := Lib.hid hrf.pull
              have HPS := Lib.hid hrf.push
              clear hat hda hdc hd hold HO HSD HCE hrf hss
              have hkc : kind = 1 ∨ kind = 2 ∨ kind = 3 ∨ kind = 4 ∨ kind = 5 ∨ kind = 6 ∨ kind = 7 ∨ kind = 8 ∨ kind = 9 ∨ (kind ≠ 1 ∧ kind ≠ 2 ∧ kind ≠ 3 ∧ kind ≠ 4 ∧ kind ≠ 5 ∧ kind ≠ 6 ∧ kind ≠ 7 ∧ kind ≠ 8 ∧ kind ≠ 9) := by omega
              rcases hkc with rfl | rfl | rfl | rfl | rfl | rfl | rfl | rfl | rfl | ⟨n1, n2, n3, n4, n5, n6, n7, n8, n9⟩
              · go_wp2_with (go_at_call 28; go_must (refine HPL.out.mono ?_); rintro e w6 ⟨v, rfl, s9, c9, rfl, hv⟩; have HV := Lib.hid hv; clear hv)
                exact ⟨⟨i + 1, by omega, by go_num, HV.out⟩, by simp [intOf]; omega⟩
              · go_wp2_with (go_at_call 28; go_must (refine HPL.out.mono ?_); rintro e w6 ⟨v, rfl, s9, c9, rfl, hv⟩; have HV := Lib.hid hv; clear hv)
                exact ⟨⟨i + 1, by omega, by go_num, HV.out⟩, by simp [intOf]; omega⟩
              · go_wp2_with (go_at_call 28; go_must (refine HPL.out.mono ?_); rintro e w6 ⟨v, rfl, s9, c9, rfl, hv⟩; have HV := Lib.hid hv; clear hv)
                exact ⟨⟨i + 1, by omega, by go_num, HV.out⟩, by simp [intOf]; omega⟩
              · go_wp2_with (go_at_call 43; go_must (refine HFL.out.mono ?_); rintro e w6 ⟨v, rfl, c9, rfl, hv⟩; have HV := Lib.hid hv; clear hv)
                exact ⟨⟨i + 1, by omega, by go_num, HV.out⟩, by simp [intOf]; omega⟩
              · go_wp2_with (go_at_call 26; go_must (refine HWE.out.mono ?_); rintro e w6 ⟨v, rfl, c9, rfl, hv⟩; have HV := Lib.hid hv; clear hv)
                exact ⟨⟨i + 1, by omega, by go_num, HV.out⟩, by simp [intOf]; omega⟩
              · go_wp2_with (go_at_call 48; go_must (refine HSW.out.mono ?_); rintro e w6 ⟨v, rfl, c9, rfl, hv⟩; have HV := Lib.hid hv; clear hv)
                exact ⟨⟨i + 1, by omega, by go_num, HV.out⟩, by simp [intOf]; omega⟩
              · go_wp2_with (go_at_call 49; go_must (refine HLD.out.mono ?_); rintro e w6 ⟨v, rfl, c9, rfl, hv⟩; have HV := Lib.hid hv; clear hv)
                exact ⟨⟨i + 1, by omega, by go_num, HV.out⟩, by simp [intOf]; omega⟩
              · go_wp2_with (go_at_call 44; go_must (refine HPU.out.mono ?_); rintro e w6 ⟨v, rfl, c9, rfl, hv⟩; have HV := Lib.hid hv; clear hv)
                exact ⟨⟨i + 1, by omega, by go_num, HV.out⟩, by simp [intOf]; omega⟩
              · go_wp2_with (go_at_call 46; go_must (refine HPS.out.mono ?_); rintro e w6 ⟨v, rfl, c9, rfl, hv⟩; have HV := Lib.hid hv; clear hv)
                exact ⟨⟨i + 1, by omega, by go_num, HV.out⟩, by simp [intOf]; omega⟩
              · have m1 : (kind == 1) = false := by simpa using n1
                have m2 : (kind == 2) = false := by simpa using n2
                have m3 : (kind == 3) = false := by simpa using n3
                have m4 : (kind == 4) = false := by simpa using n4
                have m5 : (kind == 5) = false := by simpa using n5
                have m6 : (kind == 6) = false := by simpa using n6
                have m7 : (kind == 7) = false := by simpa using n7
                have m8 : (kind == 8) = false := by simpa using n8
                have m9 : (kind == 9) = false := by simpa using n9
                go_wp2
                exact ⟨⟨i + 1, by omega, by go_num, HNX.out⟩, by simp [intOf]; omega⟩
          · obtain rfl : i = ops.length := by omega
            obtain ⟨B, hm, hsl2, hS⟩ := hat
            have hS6 := hS.mono (m' := 1000000) (by omega)
            have hsd := HSD.out B hsl2
            have HK0 := Lib.hid hm
            have HIM2 : Hid (∀ w L, Held W b B L (.slice y p.length yc) p w → Calls Try.prog 34 #[.pointer (some ⟨b, 0, none⟩), .int .i64 s] w (Gives fun v w' => ∃ x cap, v = .tuple #[.slice x im.length cap, .int .u16 c0] ∧ Held W b B ((.slice x im.length cap, im) :: L) (.slice y p.length yc) p w')) := fun w L h => Held.image h hsd
            have HPE : Hid (∀ w L, Held W b B L (.slice y p.length yc) p w → Calls Try.prog 40 #[.pointer (some ⟨b, 0, none⟩), .int .i64 s] w (Gives fun v w' => ∃ x cap, v = .slice x p.length cap ∧ Held W b B L (.slice y p.length yc) p w' ∧ OwnI w' 0 (.slice x p.length cap) p)) := fun w L h => Held.pend h hS6 hsd
            have HHA : Hid (∀ w L, Held W b B L (.slice y p.length yc) p w → Calls Try.prog 27 #[.pointer (some ⟨b, 0, none⟩), .int .i64 s] w fun e w' => e = .returned (.bool (decide (0 < z))) ∧ w = w') := fun w L h => Held.has h hsd
            have HSE : Hid (∀ w L, Held W b B L (.slice y p.length yc) p w → Calls Try.prog 45 #[.pointer (some ⟨b, 0, none⟩), .int .i64 s] w fun e w' => e = .returned (.int .i64 z) ∧ w = w') := fun w L h => Held.sectors h hsd
            clear hm hsl2 hS hS6 hsd HSD HO hlt
            go_wp2_with (go_at_call 34; go_must (refine (HIM2.out _ _ HK0.out).mono ?_); rintro e wA ⟨v, rfl, x9, xc9, rfl, hv⟩; have HA := Lib.hid hv; have cA := HCE.out _ (Many.old hv.1); clear hv)
            have HD := Lib.hid (HA.out.quiet (Keep.drew NoF wA))
            go_region_held3 (fun w' => w'.cell? ⟨sb, so + s, none⟩ = some (.int .i64 z)) (go_keep)
              (first | (go_at_call 19; refine (HD.out.same (List.mem_cons_of_mem _ List.mem_cons_self) List.mem_cons_self).mono ?_; rintro e wB ⟨v, rfl, rfl, hv⟩; have HB := Lib.hid hv; have cB := HCE.out _ (Many.old hv.1); clear hv) |
                (go_at_call 40; refine (HPE.out _ _ HB.out).mono ?_; rintro e wC ⟨v, rfl, x8, xc8, rfl, hv, hi8⟩; have HC := Lib.hid hv; have HI := Lib.hid hi8; have cC := HCE.out _ (Many.old hv.1); clear hv hi8) |
                (go_at_call 50; refine (HC.out.sameInts HI.out).mono ?_; rintro e wE ⟨v, rfl, rfl, hv⟩; have HE := Lib.hid hv; have cE := HCE.out _ (Many.old hv.1); clear hv) |
                (go_at_call 27; refine (HHA.out _ _ HE.out).mono ?_; rintro e wz ⟨rfl, rfl⟩) |
                (go_at_call 45; refine (HSE.out _ _ HE.out).mono ?_; rintro e wz ⟨rfl, rfl⟩))
            all_goals
              go_wp2
              go_ret
              exact ⟨_, rfl, rfl, Many.old HE.out.1⟩
  · have hbc : (badCode sizes != 0) = true := by unfold badCode; split <;> rfl
    have HNB : Hid (∀ w, Many W w 0 (fun _ => 0) (fun _ => B0) [] → Calls Try.prog 24 #[.slice sa sizes.length sc] w (Gives fun r w' => r = .tuple #[.pointer none, .int .u16 (badCode sizes)] ∧ Many W w' 0 (fun _ => 0) (fun _ => B0) [])) := fun w h => h.new_bad HSZ.out hok
    generalize badCode sizes = bc at *
    go_enter Try.func10, Try.ntmps10
    go_wp2_with (first | (go_at_call 23; go_must (refine HM.out.mono ?_); rintro e w1 ⟨v, rfl, c, rfl, hk, hc⟩; have HC := Lib.hid hc; have HK1 := Lib.hid hk; clear hk hc) | (go_at_call 24; go_must (refine (HNB.out _ (HS0.out.quiet HK1.out)).mono ?_); rintro e w3 ⟨v, rfl, rfl, hv⟩; have H3 := Lib.hid hv; clear hv) | (go_at_call 25; go_must (refine (HK25.out _).mono ?_); rintro e w5 ⟨v, rfl, rfl, hv⟩; have H5 := Lib.hid (H3.out.past hv); clear hv))
    · go_ret
      exact ⟨_, rfl, rfl, (HS0.out.quiet HK1.out).old⟩
    · go_ret
      exact ⟨_, rfl, rfl, H5.out.old⟩
end Go.Proofs.Ytghnbbpoaeheaaa
