/- BayAlone, walked. -/
import Derived.Test.YtghnbbpoaeheaaaAlone1
import Derived.StillTailTactics
import Derived.Deep.RegionHeld3
namespace Go.Proofs.Ytghnbbpoaeheaaa
open Go.RowKit

/-- How far BayAlone's last loop has come. -/
def EndAt (W : World) (b q n : Nat) (pv : Nat → Value) (B : By) (E : Nat → Option Dk) (j : Nat) (w : World) : Prop := ∃ E', Fleet W w b B n E' pv [] ∧ Ptrs w q n pv ∧ ∀ i, j ≤ i → E' i = E i
/-- What the rounds of BayAlone's last loop ask, of the disk j. -/
def EndFacts (W : World) (b q n : Nat) (pv : Nat → Value) (B' : By) (E : Nat → Option Dk) (kl : List (Value × List Bool)) (j d0 : Nat) (w0 : World) : Prop :=
    ∃ E' l, (∀ (w1 : World) v, Keep NoF w0 w1 → BoolsAt W v (keepsFor kl j) → Calls Try.prog 39 #[.pointer (some ⟨d0, 0, none⟩), v] w1 (Gives fun v w' => v = .tuple #[] ∧ Fleet W w' b B' n E' pv [] ∧ Ptrs w' q n pv)) ∧
      (∀ w, Fleet W w b B' n E' pv [] → Ptrs w q n pv → Calls Try.prog 34 #[.pointer (some ⟨b, 0, none⟩), .int .i64 j] w (Gives fun v w' => ∃ x cap, v = .tuple #[.slice x l.length cap, .int .u16 0] ∧ Fleet W w' b B' n E' pv [(.slice x l.length cap, l)] ∧ Ptrs w' q n pv)) ∧
      (∀ w L, Fleet W w b B' n E' pv L → Ptrs w q n pv → Calls Try.prog 18 #[.pointer (some ⟨d0, 0, none⟩)] w (Gives fun v w' => ∃ x cap, v = .slice x l.length cap ∧ Fleet W w' b B' n E' pv ((.slice x l.length cap, l) :: L) ∧ Ptrs w' q n pv)) ∧
      (∀ w L v1 v2, Fleet W w b B' n E' pv L → Ptrs w q n pv → (v1, l) ∈ L → (v2, l) ∈ L → Calls Try.prog 19 #[v1, v2] w (Gives fun v w' => v = .bool true ∧ Fleet W w' b B' n E' pv L ∧ Ptrs w' q n pv)) ∧
      (∀ w L, Fleet W w b B' n E' pv L → Ptrs w q n pv → Calls Try.prog 40 #[.pointer (some ⟨b, 0, none⟩), .int .i64 j] w (Gives fun v w' => ∃ x cap, v = .slice x 0 cap ∧ Fleet W w' b B' n E' pv L ∧ Ptrs w' q n pv)) ∧
      (∀ w L, Fleet W w b B' n E' pv L → Ptrs w q n pv → EndAt W b q n pv B' E (j + 1) w)
/-- The disk j of EndAt is cut, its image and the slot's are had. -/
theorem end_facts {W w : World} {b q n : Nat} {pv : Nat → Value} {B B' : By} {E : Nat → Option Dk} {kl : List (Value × List Bool)} (hlk : Like n B E) (hS : B.Small 1000000) (hB' : B' = B.cut kl) {j : Nat} (hj : j < n) {D : Dk} {d0 : Nat} (hD : E j = some D) (hp : pv j = .pointer (some ⟨d0, 0, none⟩)) (h : EndAt W b q n pv B' E j w) : EndFacts W b q n pv B' E kl j d0 w := by
  subst hB'
  obtain ⟨e1, e2, e3⟩ := like_cut hlk kl hj hD
  obtain ⟨E0, hf, hpt, hE⟩ := h
  have hD0 : E0 j = some D := (hE j (Nat.le_refl _)).trans hD
  have hcl : D.cache.length ≤ 1000000 := by
    have := hS.cl (j * 3) ⟨D, false, 0⟩ (by rw [hlk.dev j hj, hD]; rfl)
    simp only at this
    omega
  have hDn : put E0 j (some (D.crash (keepsFor kl j))) j = some (D.crash (keepsFor kl j)) := put_same _ _ _
  refine ⟨put E0 j (some (D.crash (keepsFor kl j))), (D.crash (keepsFor kl j)).image, fun w1 v hk hv => ?_, fun w h hpt => ?_, fun w L h hpt => ?_, fun w L v1 v2 h hpt m1 m2 => ?_, fun w L h hpt => ?_, fun w L h hpt => ⟨_, h.less (fun q hq => by cases hq), hpt, fun i hi => by rw [put_other _ _ (by omega)]; exact hE i (by omega)⟩⟩
  · have hf1 := hf.quiet hk
    have hpt1 := hpt.local (Local.noF hk)
    have ho := hf1.old
    obtain ⟨d1, F, h1, h2, h3, h4⟩ := hf1.disk hj hD0
    rw [hp] at h1
    obtain rfl : d0 = d1 := by simpa using h1
    refine Gives.imp (crash_any h2 v (keepsFor kl j) (hv.old ho) (fun a m c hva hne hf => ?_) hcl) fun v w' hg => ?_
    · obtain ⟨a0, c0, hv0, _, hr⟩ := hv
      obtain ⟨b2, o2, rfl, hr2⟩ := hr hne
      rw [hva] at hv0
      simp only [Value.slice.injEq] at hv0
      obtain ⟨y, hy⟩ := List.exists_mem_of_ne_nil _ hne
      obtain ⟨k, hk2, rfl⟩ := List.mem_iff_getElem.1 hy
      have hlt := World.block_lt_of_cell? W ⟨b2, o2 + k, none⟩ (hr2 k (.bool (keepsFor kl j)[k]) (by simp [hk2]))
      have e1 : a = ⟨b2, o2, none⟩ := Option.some.inj hv0.1
      subst e1
      have := h3 _ hf
      simp only at this hlt
      omega
    · obtain ⟨k1, k2⟩ := h4 _ _ hg.2
      exact ⟨hg.1, k1, hpt1.local k2⟩
  · obtain ⟨F, hb, hF, hst⟩ := h.bay
    refine Gives.imp (bimage_any hb j) fun v w' hg => ?_
    obtain ⟨s, rfl, ho, hk⟩ := hg
    rw [e1]
    rw [e2] at ho
    obtain ⟨x, cap, rfl⟩ := own_form ho
    exact ⟨x, cap, rfl, (h.quiet hk).mem (ho.mono (Nat.zero_le _)), hpt.local (Local.noF hk)⟩
  · obtain ⟨d1, F, h1, h2, h3, h4⟩ := h.disk hj hDn
    rw [hp] at h1
    obtain rfl : d0 = d1 := by simpa using h1
    refine Gives.imp (image_any h2) fun v w' hg => ?_
    obtain ⟨ho, hk⟩ := hg
    obtain ⟨x, cap, rfl⟩ := own_form ho
    exact ⟨x, cap, rfl, (h.quiet hk).mem (ho.mono (Nat.zero_le _)), hpt.local (Local.noF hk)⟩
  · exact Gives.imp (same_any (h.bytes m1) (h.bytes m2)) fun v w' hg => ⟨hg.1.trans (by simp), h.quiet hg.2, hpt.local (Local.noF hg.2)⟩
  · obtain ⟨F, hb, hF, hst⟩ := h.bay
    refine Gives.imp (bpending_any hb j (fun d hd => ?_)) fun v w' hg => ?_
    · have := Small.of_in (Small.cut hS (by omega) kl) hd
      omega
    · obtain ⟨ho, hk⟩ := hg
      rw [e3] at ho
      obtain ⟨x, cap, hx⟩ := own_form ho
      exact ⟨x, cap, by simpa [ints] using hx, h.quiet hk, hpt.local (Local.noF hk)⟩

set_option maxRecDepth 100000 in
set_option maxHeartbeats 4000000 in
theorem alone_any {W : World} {sv ov kv : Value} {sizes : List Int} {ops : List OpD} {kl : List (Value × List Bool)} (hs : IntsAt W sv sizes) (hsl : sizes.length ≤ far) (hsi : ∀ s ∈ sizes, inI64 s) (ho : OpsAt W ov ops) (hk : KeepsAt W kv kl) :
    Calls Try.prog 6 #[sv, ov, kv] W (Gives fun v w' => v = .bool true ∧ Keep (Old W) W w') := by
  have HM := Lib.hid (much_any (W := W) hs hsl hsi ho)
  have HM2 : Hid (∀ w, Keep NoF W w → Calls Try.prog 23 #[sv, .slice (some ⟨w.heap.size, 0, none⟩) 1 1] (w.alloc (.cells #[.int .i64 0, .int .i64 0, .int .i64 0, .slice none 0 0, kv] 69)) (Gives (MuchPost (w.alloc (.cells #[.int .i64 0, .int .i64 0, .int .i64 0, .slice none 0 0, kv] 69)) (1 + sizes.length)))) := fun w hw =>
    much_any (W := w.alloc (.cells #[.int .i64 0, .int .i64 0, .int .i64 0, .slice none 0 0, kv] 69)) (hs.old ((hw.trans' (Keep.alloc _ _ _)).mono fun _ _ h => h.elim)) hsl hsi (keeps_op hw hk)
  have HO := Lib.hid ho
  have HKP := Lib.hid hk
  have HSZ := Lib.hid hs
  obtain ⟨oa, oc, rfl, -, -, -⟩ := ho
  obtain ⟨ka, kc, rfl, -, -⟩ := hk
  obtain ⟨sa, sc, rfl, -, hsr⟩ := hs
  have HS0 : Hid (Many W W 0 (fun _ => 0) (fun _ => B0) []) := Many.start0 _ _ _
  have HK25 : Hid (∀ w, Calls Try.prog 25 #[] w (Gives fun v w' => v = .bool true ∧ Keep (Old w) w w')) := fun w => known_any w
  clear hsi
  by_cases hok : sizesOk sizes
  · have hm17 : sizes.length ≤ 17 := hok.2.1
    have hm1 : 1 ≤ sizes.length := hok.1
    have HOK := Lib.hid hok.2.2
    have HNG : Hid (∀ (w : World), Many W w 0 (fun _ => 0) (fun _ => B0) [] → Calls Try.prog 24 #[.slice sa sizes.length sc] w (Gives fun r w' => ∃ b, r = .tuple #[.pointer (some ⟨b, 0, none⟩), .int .u16 0] ∧ Many W w' 1 (fun _ => b) (fun _ => By.fresh sizes sizes.length) [])) := fun w h => Gives.imp (h.new_ok HSZ.out hok) fun v w' hg => by
      obtain ⟨b, h1, F, k1, k2, k3, k4, k5⟩ := hg
      refine ⟨b, h1, F, fun i hi => ?_, k2, k3, k4, k5⟩
      have := k1 i hi
      obtain rfl : i = 0 := by omega
      exact this
    obtain ⟨sb, so, rfl, hsr2⟩ := hsr (by rintro rfl; simp at hm1)
    have HSR := Lib.hid hsr2
    have HLK : Hid (∀ E, (∀ j, j < sizes.length → E j = szDk sizes j) → Like sizes.length (By.fresh sizes sizes.length) E ∧ (By.fresh sizes sizes.length).Small 0) := fun E hE => ⟨like_fresh sizes hE, fresh_small _ _⟩
    generalize By.fresh sizes sizes.length = F at *
    clear hsr hsr2 hok
    go_enter Try.func6, Try.ntmps6
    go_wp2_with (first | (go_at_call 23; refine (HM2.out _ HK1.out).mono ?_; rintro e w2 ⟨v, rfl, c2, rfl, hk, hc⟩; have HC2 := Lib.hid hc; have H2 := Lib.hid (((HS0.out.quiet HK1.out).quiet (Keep.alloc NoF _ _)).quiet hk); clear hk hc) | (go_at_call 23; go_must (refine HM.out.mono ?_); rintro e w1 ⟨v, rfl, c, rfl, hk, hc⟩; have HC := Lib.hid hc; have HK1 := Lib.hid hk; clear hk hc) | (go_at_call 24; go_must (refine (HNG.out _ H2.out).mono ?_); rintro e w3 ⟨v, rfl, b, rfl, hv⟩; have H3 := Lib.hid hv; clear hv) | (go_at_call 25; go_must (refine (HK25.out _).mono ?_); rintro e w5 ⟨v, rfl, rfl, hv⟩; have H5 := Lib.hid (H3.out.past hv); clear hv))
    · go_ret
      exact ⟨_, rfl, rfl, (HS0.out.quiet HK1.out).old⟩
    · go_ret
      exact ⟨_, rfl, rfl, H2.out.old⟩
    · have hlen : ops.length ≤ 100000 := by have := HC.out (by simpa using ‹¬ c = true›); omega
      have H6 : Hid (Fleet W w5 b F 0 (fun _ => none) (fun _ => undef) []) := Fleet.start H5.out
      clear HC HC2 HM HM2 HS0 HK25 HNG H2 H3 H5 HK1
      go_loopw [9, 10] (fun v t wr => ∃ (i : Nat) (E : Nat → Option Dk) (pv : Nat → Value), i ≤ sizes.length ∧ t = .int .i64 i ∧ Fleet W wr b F i E pv [] ∧ wr.ownsRow W.heap.size 25 1 v i ((List.range i).map pv) ∧ ∀ j, j < i → E j = szDk sizes j) (fun _ t _ => sizes.length - (intOf t).toNat)
      case atStart => exact ⟨0, _, _, Nat.zero_le _, rfl, H6.out, World.ownsRow_nil _ _ _ _, fun j hj => by omega⟩
      case round =>
        obtain ⟨i, E, pv, hi, rfl, hf, hown, hE⟩ := hrel
        clear H6
        have hWs := hf.old.size
        by_cases hlt : i < sizes.length
        · obtain ⟨s, hsi⟩ : ∃ s, sizes[i]? = some s := ⟨_, List.getElem?_eq_getElem hlt⟩
          have hc0 : wr.cell? ⟨sb, so + i, none⟩ = some (.int .i64 s) := hf.old.old (HSR.out i _ (by simp [ints, hsi]))
          have hsok := HOK.out s (List.mem_of_getElem? hsi)
          have HSK : Hid (szDk sizes i = if s = 0 then none else some (Dk.new s.toNat)) := by
            show _ = _
            unfold szDk
            rw [List.getD_eq_getElem?_getD, hsi]
            rfl
          have HEE : Hid (∀ x, x = szDk sizes i → ∀ j, j < i + 1 → put E i x j = szDk sizes j) := fun x hx j hj => by
            by_cases e : j = i
            · subst e; rw [put_same]; exact hx
            · rw [put_other _ _ e]; exact hE j (by omega)
          have HF := Lib.hid hf
          have HOW := Lib.hid hown
          clear hsi hE hf hown
          rcases hsok with rfl | ⟨hs1, hs2⟩
          · have HNW : Hid (Calls Try.prog 35 #[.int .i64 0] wr (Gives fun v w' => v = .tuple #[.pointer none, .int .u16 40] ∧ wr = w')) := new_bad 0 wr (.inl (by omega))
            have HSK' : Hid (szDk sizes i = none) := HSK.out
            have hsz1 : W.heap.size ≤ (wr.alloc (.cells #[.pointer none] 25)).heap.size := by simp; omega
            have HN : Hid (∀ j u, [Value.pointer none][j]? = some u → (wr.alloc (.cells #[.pointer none] 25)).cell? ((⟨wr.heap.size, 0, none⟩ : Addr).add j) = some u) := cell_one_new wr (.pointer none) 25
            have HOWA : Hid ((wr.alloc (.cells #[.pointer none] 25)).ownsRow W.heap.size 25 1 u9 i ((List.range i).map pv)) := World.ownsRow.alloc HOW.out _
            go_wp2_with (first | (go_at_call 35; go_must (refine HNW.out.mono ?_); rintro e w6 ⟨v, rfl, rfl, rfl⟩) | (at_builtin; go_must (refine wpList_app82 rfl _ _ rfl W.heap.size _ i _ rfl HOWA.out ⟨wr.heap.size, 0, none⟩ 1 1 [.pointer none] rfl rfl HN.out ?c3 ?c4 ?c5 ?_)))
            case c3 => intro u hu; simp at hu; subst hu; rfl
            case c4 => omega
            case c5 => exact hsz1
            intro v' w' ho hg _
            obtain ⟨r1, r2⟩ := grow_row HF.out.addNone HOW.out (Keep.refl _ _) ho hg
            have R1 := Lib.hid r1
            have R2 := Lib.hid r2
            clear ho hg r1 r2
            go_wp2
            exact ⟨⟨i + 1, _, _, by omega, by go_num, R1.out, R2.out, HEE.out _ HSK'.out.symm⟩, by simp [intOf]; omega⟩
          · obtain ⟨m, rfl⟩ : ∃ m : Nat, s = m := ⟨s.toNat, by omega⟩
            have HNW : Hid (Calls Try.prog 35 #[.int .i64 m] wr (Gives fun v w' => ∃ d, v = .tuple #[.pointer (some ⟨d, 0, none⟩), .int .u16 0] ∧ Keep NoF wr w' ∧ Fleet W w' b F (i + 1) (put E i (some (Dk.new m))) (put pv i (.pointer (some ⟨d, 0, none⟩))) [])) :=
              Gives.imp (new_ok m wr (by omega) (by omega)) fun v w' hg => by
                obtain ⟨d, F', h1, h2, h3, h4⟩ := hg
                exact ⟨d, h1, h3, HF.out.add h2 h3 h4⟩
            have HSK' : Hid (szDk sizes i = some (Dk.new m)) := by
              have := HSK.out
              rw [if_neg (by omega)] at this
              show _ = _
              simpa using this
            have HN : Hid (∀ (w6 : World) (d : Nat) j u, [Value.pointer (some ⟨d, 0, none⟩)][j]? = some u → (w6.alloc (.cells #[.pointer (some ⟨d, 0, none⟩)] 25)).cell? ((⟨w6.heap.size, 0, none⟩ : Addr).add j) = some u) := fun w6 d => cell_one_new w6 (.pointer (some ⟨d, 0, none⟩)) 25
            have HOWA : Hid (∀ (w6 : World) o, Keep NoF wr w6 → (w6.alloc o).ownsRow W.heap.size 25 1 u9 i ((List.range i).map pv)) := fun w6 o hk => World.ownsRow.alloc (ownsRow_keep HOW.out hk (fun _ _ h => h)) _
            go_wp2_with (first | (go_at_call 35; go_must (refine HNW.out.mono ?_); rintro e w6 ⟨v, rfl, d, rfl, hk6, hv⟩; have HK6 := Lib.hid hk6; have HF6 := Lib.hid hv; have hsz6 := hk6.size; clear hk6 hv) | (at_builtin; go_must (refine wpList_app82 rfl _ _ rfl W.heap.size _ i _ rfl (HOWA.out _ _ HK6.out) ⟨w6.heap.size, 0, none⟩ 1 1 [.pointer (some ⟨d, 0, none⟩)] rfl rfl (HN.out w6 d) ?c3 ?c4 ?c5 ?_)))
            case c3 => intro u hu; simp at hu; subst hu; rfl
            case c4 => omega
            case c5 => simp; omega
            intro v' w' ho hg _
            obtain ⟨r1, r2⟩ := grow_row HF6.out HOW.out HK6.out ho hg
            have R1 := Lib.hid r1
            have R2 := Lib.hid r2
            clear ho hg r1 r2
            go_wp2
            exact ⟨⟨i + 1, _, _, by omega, by go_num, R1.out, R2.out, HEE.out _ HSK'.out.symm⟩, by simp [intOf]; omega⟩
        · obtain rfl : i = sizes.length := by omega
          obtain ⟨q, qc, rfl, hpt⟩ := ptrs_of_own hown hm1
          have hln := HLK.out E hE
          have HA0 : Hid (AloneAt W b q sizes.length pv 0 wr) := ⟨F, E, hf, hpt, hln.1, by simpa using hln.2⟩
          clear hf hown hE hpt hln hlt HLK HSR HOK
          go_wp2
          go_loopw [13] (fun t wr => ∃ i : Nat, i ≤ ops.length ∧ t = .int .i64 i ∧ AloneAt W b q sizes.length pv i wr) (fun t _ => ops.length - (intOf t).toNat)
          case atStart => exact ⟨0, Nat.zero_le _, rfl, HA0.out⟩
          case round =>
            obtain ⟨i, hi, rfl, B, E1, hf, hpt, hlk, hS⟩ := hrel
            clear HA0
            by_cases hlt : i < ops.length
            · obtain ⟨d, hd⟩ : ∃ d, ops[i]? = some d := ⟨_, List.getElem?_eq_getElem hlt⟩
              obtain ⟨bb, o, cap, hv, hda, hdc⟩ := HO.out.get hd
              have hdc := hdc wr hf.old
              simp only [Value.slice.injEq, true_and] at hv
              obtain ⟨rfl, rfl⟩ := hv
              have HNX : Hid (∀ w', Keep NoF wr w' → AloneAt W b q sizes.length pv (i + 1) w') := fun w' hk => ⟨B, E1, hf.quiet hk, hpt.local (Local.noF hk), hlk, by simpa using hS.mono (m' := i + 1) (by omega)⟩
              obtain ⟨kind, slot, nn, bv, bl, kv, kl2⟩ := d
              obtain ⟨ba, bcap, hbv, -, -, -⟩ := hda.b
              obtain ⟨ka2, kcap, hkv, -, -, -⟩ := hda.k
              simp only at hbv hkv
              subst hbv
              subst hkv
              have HW1 : Hid (Wf W b B sizes.length E1 pv q wr.heap.size ⟨kind, slot, nn, .slice ba bl.length bcap, bl, .slice ka2 kl2.length kcap, kl2⟩ [] (wr.alloc (.cells #[.int .i64 kind, .int .i64 slot, .int .i64 nn, .slice ba bl.length bcap, .slice ka2 kl2.length kcap] 69))) := wf_start hf hpt ⟨kind, slot, nn, .slice ba bl.length bcap, bl, .slice ka2 kl2.length kcap, kl2⟩
              obtain ⟨⟨x0, x1, x2⟩, x3, x4⟩ := op_cells hdc
              obtain ⟨hk1, hk2⟩ := hda.kind
              obtain ⟨hs1, hs2⟩ := hda.slot
              have HNX2 := Lib.hid (HNX.out _ (Keep.alloc NoF wr (.cells #[.int .i64 kind, .int .i64 slot, .int .i64 nn, .slice ba bl.length bcap, .slice ka2 kl2.length kcap] 69)))
              clear hdc hd HNX
              by_cases hbad : kind < 1 ∨ 3 < kind ∨ slot < 0 ∨ (sizes.length : Int) ≤ slot
              · clear hf hpt hlk hS hda HW1 HO HKP HSZ
                rcases hbad with hb1 | hb1
                · go_wp2
                  exact ⟨⟨i + 1, by omega, by go_num, HNX2.out⟩, by simp [intOf]; omega⟩
                · by_cases hb0 : kind < 1
                  · go_wp2
                    exact ⟨⟨i + 1, by omega, by go_num, HNX2.out⟩, by simp [intOf]; omega⟩
                  · rcases hb1 with hb1 | hb1
                    · go_wp2
                      exact ⟨⟨i + 1, by omega, by go_num, HNX2.out⟩, by simp [intOf]; omega⟩
                    · by_cases hb3 : 3 < kind
                      · go_wp2
                        exact ⟨⟨i + 1, by omega, by go_num, HNX2.out⟩, by simp [intOf]; omega⟩
                      · rcases hb1 with hb1 | hb1
                        · go_wp2
                          exact ⟨⟨i + 1, by omega, by go_num, HNX2.out⟩, by simp [intOf]; omega⟩
                        · have hb4 : ¬ slot < 0 := by omega
                          go_wp2
                          exact ⟨⟨i + 1, by omega, by go_num, HNX2.out⟩, by simp [intOf]; omega⟩
              · obtain ⟨g1, g2, g3, g4⟩ : 1 ≤ kind ∧ kind ≤ 3 ∧ 0 ≤ slot ∧ slot < sizes.length := by omega
                clear hbad
                obtain ⟨j, rfl⟩ : ∃ j : Nat, slot = j := ⟨slot.toNat, by omega⟩
                have hj : j < sizes.length := by omega
                have hqc := HW1.out.2.1.cell hj
                rcases hf.ptr hj with ⟨hE, hp⟩ | ⟨D, d0, hE, hp⟩
                · rw [hp] at hqc
                  clear hf hpt hlk hS hda HW1 HO HKP HSZ hE hp
                  go_wp2
                  exact ⟨⟨i + 1, by omega, by go_num, HNX2.out⟩, by simp [intOf]; omega⟩
                · rw [hp] at hqc
                  have HQ : Hid (∀ B E L g d w, Wf W b B sizes.length E pv q g d L w → w.cell? ⟨q, j, none⟩ = some (.pointer (some ⟨d0, 0, none⟩))) := fun B E L g d w h => by have := h.2.1.cell hj; rw [hp] at this; exact this
                  obtain ⟨B', E', c, l, f1, f2, f3, f4, f5⟩ := alone_facts (g := wr.heap.size) (b := b) (q := q) hlk hS (by omega) hj hE hp hda
                  have HPL := Lib.hid f1
                  have HNXT := Lib.hid f5
                  clear hf hpt hlk hS hda HO HKP HSZ hE hp HNX2 f1 f5
                  rcases (by omega : kind = 1 ∨ kind = 2 ∨ kind = 3) with rfl | rfl | rfl
                  · have HRD := Lib.hid (f2 rfl)
                    clear f2 f3 f4
                    go_wp2_with (go_at_call 28; go_must (refine (HPL.out _ _ HW1.out).mono ?_); rintro e wa ⟨v, rfl, x, xc, rfl, hv⟩; have HWA := Lib.hid hv; obtain ⟨⟨y0, y1, y2⟩, y3, y4, y5⟩ := Wf.cellsY hv; have yq := HQ.out _ _ _ _ _ _ hv; clear hv)
                    have HWD := Lib.hid (HWA.out.quiet (Keep.drew _ _))
                    go_region_held3 (fun w' => w'.cell? ⟨q, j, none⟩ = some (.pointer (some ⟨d0, 0, none⟩)) ∧ w'.cell? ⟨wr.heap.size, 1, none⟩ = some (.int .i64 j) ∧ w'.cell? ⟨wr.heap.size, 2, none⟩ = some (.int .i64 nn)) (go_keep)
                      (first | (go_at_call 36; refine (HRD.out _ _ HWD.out).mono ?_; rintro e wb ⟨v, rfl, y, yc, rfl, hv⟩; have HWB := Lib.hid hv; obtain ⟨⟨z0, z1, z2⟩, z3, z4, z5⟩ := Wf.cellsY hv; have zq := HQ.out _ _ _ _ _ _ hv; clear hv))
                    all_goals
                      have HSA : Hid (Calls Try.prog 19 #[.slice x l.length xc, .slice y l.length yc] wb (Gives fun v w' => v = .bool true ∧ Wf W b B' sizes.length E' pv q wr.heap.size ⟨1, j, nn, .slice ba bl.length bcap, bl, .slice ka2 kl2.length kcap, kl2⟩ [(.slice y l.length yc, l), (.slice x l.length xc, l)] w')) := Wf.same HWB.out (HWB.out.1.bytes (List.mem_cons_of_mem _ List.mem_cons_self)) (HWB.out.1.bytes List.mem_cons_self) rfl
                      go_wp2_with (go_at_call 19; go_must (refine HSA.out.mono ?_); rintro e wc ⟨v, rfl, rfl, hv⟩; have HWC := Lib.hid hv; clear hv)
                      exact ⟨⟨i + 1, by omega, by go_num, HNXT.out _ _ HWC.out⟩, by simp [intOf]; omega⟩
                  · obtain ⟨rfl, f3'⟩ := f3 rfl
                    have HWT := Lib.hid f3'
                    clear f2 f3 f4 f3'
                    go_wp2_with (go_at_call 28; go_must (refine (HPL.out _ _ HW1.out).mono ?_); rintro e wa ⟨v, rfl, x, xc, rfl, hv⟩; have HWA := Lib.hid hv; obtain ⟨⟨y0, y1, y2⟩, y3, y4, y5⟩ := Wf.cellsY hv; have yq := HQ.out _ _ _ _ _ _ hv; clear hv)
                    go_still_tail 9, (by kernel_rfl)
                    change wpList _ _ _ _ _ wa.drew
                    have HWD := Lib.hid (HWA.out.quiet (Keep.drew _ _))
                    clear HWA
                    generalize wa.drew = wd at *
                    have HSA : Hid (∀ w L x xc, Wf W b B' sizes.length E' pv q wr.heap.size ⟨2, j, nn, .slice ba bl.length bcap, bl, .slice ka2 kl2.length kcap, kl2⟩ ((.slice x 0 xc, []) :: L) w → Calls Try.prog 19 #[.slice x 0 xc, .slice none 0 0] w (Gives fun v w' => v = .bool true ∧ Wf W b B' sizes.length E' pv q wr.heap.size ⟨2, j, nn, .slice ba bl.length bcap, bl, .slice ka2 kl2.length kcap, kl2⟩ ((.slice x 0 xc, []) :: L) w')) := fun w L x xc h => Wf.same h (h.1.bytes List.mem_cons_self) ⟨none, 0, rfl, by simp, by simp [maxLen], fun h => absurd rfl h⟩ rfl
                    go_wp2_with (first | (go_at_call 37; go_must (refine (HWT.out _ _ HWD.out).mono ?_); rintro e wb ⟨v, rfl, rfl, hv⟩; have HWB := Lib.hid hv; clear hv) | (go_at_call 19; go_must (refine (HSA.out _ _ _ _ HWB.out).mono ?_); rintro e wc ⟨v, rfl, rfl, hv⟩; have HWC := Lib.hid hv; clear hv))
                    exact ⟨⟨i + 1, by omega, by go_num, HNXT.out _ _ HWC.out⟩, by simp [intOf]; omega⟩
                  · obtain ⟨rfl, f4'⟩ := f4 rfl
                    have HFL := Lib.hid f4'
                    clear f2 f3 f4 f4'
                    have HSA : Hid (∀ w L x xc, Wf W b B' sizes.length E' pv q wr.heap.size ⟨3, j, nn, .slice ba bl.length bcap, bl, .slice ka2 kl2.length kcap, kl2⟩ ((.slice x 0 xc, []) :: L) w → Calls Try.prog 19 #[.slice x 0 xc, .slice none 0 0] w (Gives fun v w' => v = .bool true ∧ Wf W b B' sizes.length E' pv q wr.heap.size ⟨3, j, nn, .slice ba bl.length bcap, bl, .slice ka2 kl2.length kcap, kl2⟩ ((.slice x 0 xc, []) :: L) w')) := fun w L x xc h => Wf.same h (h.1.bytes List.mem_cons_self) ⟨none, 0, rfl, by simp, by simp [maxLen], fun h => absurd rfl h⟩ rfl
                    go_wp2_with (first | (go_at_call 28; go_must (refine (HPL.out _ _ HW1.out).mono ?_); rintro e wa ⟨v, rfl, x, xc, rfl, hv⟩; have HWA := Lib.hid hv; obtain ⟨⟨y0, y1, y2⟩, y3, y4, y5⟩ := Wf.cellsY hv; have yq := HQ.out _ _ _ _ _ _ hv; clear hv) | (go_at_call 38; go_must (refine (HFL.out _ _ HWA.out).mono ?_); rintro e wb ⟨v, rfl, rfl, hv⟩; have HWB := Lib.hid hv; clear hv) | (go_at_call 19; go_must (refine (HSA.out _ _ _ _ HWB.out).mono ?_); rintro e wc ⟨v, rfl, rfl, hv⟩; have HWC := Lib.hid hv; clear hv))
                    exact ⟨⟨i + 1, by omega, by go_num, HNXT.out _ _ HWC.out⟩, by simp [intOf]; omega⟩
            · obtain rfl : i = ops.length := by omega
              have hS6 := hS.mono (m' := 1000000) (by omega)
              have HCU : Hid (Calls Try.prog 33 #[.pointer (some ⟨b, 0, none⟩), .slice ka kl.length kc] wr (Gives fun v w' => v = .tuple #[] ∧ EndAt W b q sizes.length pv (B.cut kl) E1 0 w')) := by
                obtain ⟨Fb, hb, hF, hst⟩ := hf.bay
                exact Gives.imp (cut_any hb hF hf.old HKP.out hS6 hlk.nc) fun v w' hg => ⟨hg.1, E1, (hst _ _ hg.2).1, hpt.local (hst _ _ hg.2).2, fun _ _ => rfl⟩
              obtain ⟨Bc, hBc⟩ : ∃ Bc, Bc = B.cut kl := ⟨_, rfl⟩
              rw [← hBc] at HCU
              have HPN : Hid (∀ j, j < sizes.length → (E1 j = none ∧ pv j = .pointer none) ∨ ∃ D d, E1 j = some D ∧ pv j = .pointer (some ⟨d, 0, none⟩)) := fun j hj => hf.ptr hj
              have HEF : Hid (∀ (w : World) (j d0 : Nat) (D : Dk), j < sizes.length → E1 j = some D → pv j = .pointer (some ⟨d0, 0, none⟩) → EndAt W b q sizes.length pv Bc E1 j w → EndFacts W b q sizes.length pv Bc E1 kl j d0 w) := fun w j d0 D hj hD hp h => end_facts hlk hS6 hBc hj hD hp h
              clear hf hpt hlk hS hS6 hBc HSZ HO hlt
              go_wp2_with (go_at_call 33; go_must (refine HCU.out.mono ?_); rintro e w7 ⟨v, rfl, rfl, hv⟩; have HE0 := Lib.hid hv; clear hv)
              clear HCU
              go_loopw [19] (fun t wr => ∃ j : Nat, j ≤ sizes.length ∧ t = .int .i64 j ∧ EndAt W b q sizes.length pv Bc E1 j wr) (fun t _ => sizes.length - (intOf t).toNat)
              case atStart => exact ⟨0, Nat.zero_le _, rfl, HE0.out⟩
              case round =>
                obtain ⟨j, hj, rfl, he⟩ := hrel
                clear HE0
                by_cases hlt : j < sizes.length
                · have hqc : wr.cell? ⟨q, j, none⟩ = some (pv j) := by obtain ⟨E2, _, h2, _⟩ := id he; exact h2.cell hlt
                  rcases HPN.out j hlt with ⟨hE, hp⟩ | ⟨D, d0, hE, hp⟩
                  · have HNX : Hid (EndAt W b q sizes.length pv Bc E1 (j + 1) wr) := by
                      obtain ⟨E2, h1, h2, h3⟩ := he
                      exact ⟨E2, h1, h2, fun i hi => h3 i (by omega)⟩
                    rw [hp] at hqc
                    clear he HPN HEF HKP hE hp
                    go_wp2
                    exact ⟨⟨j + 1, by omega, by go_num, HNX.out⟩, by simp [intOf]; omega⟩
                  · rw [hp] at hqc
                    have HQ : Hid (∀ w, Ptrs w q sizes.length pv → w.cell? ⟨q, j, none⟩ = some (.pointer (some ⟨d0, 0, none⟩))) := fun w h => by have := h.cell hlt; rw [hp] at this; exact this
                    have hold : Keep (Old W) W wr := by obtain ⟨E2, h1, _⟩ := id he; exact h1.old
                    obtain ⟨E', l, f1, f2, f3, f4, f5, f6⟩ := HEF.out wr j d0 D hlt hE hp he
                    have HCR := Lib.hid f1
                    have HIM := Lib.hid f2
                    have HDI := Lib.hid f3
                    have HSA := Lib.hid f4
                    have HPE := Lib.hid f5
                    have HNX := Lib.hid f6
                    clear f1 f2 f3 f4 f5 f6 he HPN HEF hE hp
                    by_cases hjk : j < kl.length
                    · obtain ⟨kb, ko, kcap, a, c, hkv, hcellW, hbools, -⟩ := HKP.out.get (Keep.refl _ W) hjk
                      have hcell := hold.old hcellW
                      have HCR2 := Lib.hid (HCR.out wr.drew _ (Keep.drew _ _) hbools)
                      simp only [Value.slice.injEq, true_and] at hkv
                      obtain ⟨rfl, rfl⟩ := hkv
                      clear hcellW hbools HCR hold HKP
                      generalize keepsFor kl j = kf at *
                      go_wp2
                      go_still_tail 8, (by kernel_rfl)
                      change wpList _ _ _ _ _ wr.drew
                      generalize wr.drew = wd at *
                      go_wp2_with (first | (go_at_call 39; go_must (refine HCR2.out.mono ?_); rintro e w8 ⟨v, rfl, rfl, hv, hp8⟩; have HF8 := Lib.hid hv; have HP8 := Lib.hid hp8; clear hv hp8) | (go_at_call 34; go_must (refine (HIM.out _ HF8.out HP8.out).mono ?_); rintro e w9 ⟨v, rfl, x, xc, rfl, hv, hp9⟩; have HF9 := Lib.hid hv; have HP9 := Lib.hid hp9; have zq := HQ.out _ hp9; clear hv hp9) | (go_at_call 18; go_must (refine (HDI.out _ _ HF9.out HP9.out).mono ?_); rintro e w10 ⟨v, rfl, y, yc, rfl, hv, hp10⟩; have HF10 := Lib.hid hv; have HP10 := Lib.hid hp10; clear hv hp10) | (go_at_call 19; go_must (refine (HSA.out _ _ _ _ HF10.out HP10.out (List.mem_cons_of_mem _ List.mem_cons_self) List.mem_cons_self).mono ?_); rintro e w11 ⟨v, rfl, rfl, hv, hp11⟩; have HF11 := Lib.hid hv; have HP11 := Lib.hid hp11; clear hv hp11) | (go_at_call 40; go_must (refine (HPE.out _ _ HF11.out HP11.out).mono ?_); rintro e w12 ⟨v, rfl, x8, cap8, rfl, hv, hp12⟩; have HF12 := Lib.hid hv; have HP12 := Lib.hid hp12; clear hv hp12))
                      exact ⟨⟨j + 1, by omega, by go_num, HNX.out _ _ HF12.out HP12.out⟩, by simp [intOf]; omega⟩
                    · have e : keepsFor kl j = [] := by unfold keepsFor; rw [List.getElem?_eq_none (by omega)]
                      rw [e] at HCR
                      have HCR2 := Lib.hid (HCR.out wr (.slice none 0 0) (Keep.refl _ _) (BoolsAt.nil _))
                      clear e HCR hold HKP
                      go_wp2_with (first | (go_at_call 39; go_must (refine HCR2.out.mono ?_); rintro e w8 ⟨v, rfl, rfl, hv, hp8⟩; have HF8 := Lib.hid hv; have HP8 := Lib.hid hp8; clear hv hp8) | (go_at_call 34; go_must (refine (HIM.out _ HF8.out HP8.out).mono ?_); rintro e w9 ⟨v, rfl, x, xc, rfl, hv, hp9⟩; have HF9 := Lib.hid hv; have HP9 := Lib.hid hp9; have zq := HQ.out _ hp9; clear hv hp9) | (go_at_call 18; go_must (refine (HDI.out _ _ HF9.out HP9.out).mono ?_); rintro e w10 ⟨v, rfl, y, yc, rfl, hv, hp10⟩; have HF10 := Lib.hid hv; have HP10 := Lib.hid hp10; clear hv hp10) | (go_at_call 19; go_must (refine (HSA.out _ _ _ _ HF10.out HP10.out (List.mem_cons_of_mem _ List.mem_cons_self) List.mem_cons_self).mono ?_); rintro e w11 ⟨v, rfl, rfl, hv, hp11⟩; have HF11 := Lib.hid hv; have HP11 := Lib.hid hp11; clear hv hp11) | (go_at_call 40; go_must (refine (HPE.out _ _ HF11.out HP11.out).mono ?_); rintro e w12 ⟨v, rfl, x8, cap8, rfl, hv, hp12⟩; have HF12 := Lib.hid hv; have HP12 := Lib.hid hp12; clear hv hp12))
                      exact ⟨⟨j + 1, by omega, by go_num, HNX.out _ _ HF12.out HP12.out⟩, by simp [intOf]; omega⟩
                · obtain ⟨E2, h1, h2, h3⟩ := he
                  have HOL := Lib.hid h1.old
                  clear h1 h2 h3 HPN HEF HKP
                  go_wp2
                  go_ret
                  exact ⟨_, rfl, rfl, HOL.out⟩
  · have hbc : (badCode sizes != 0) = true := by unfold badCode; split <;> rfl
    have HNB : Hid (∀ w, Many W w 0 (fun _ => 0) (fun _ => B0) [] → Calls Try.prog 24 #[.slice sa sizes.length sc] w (Gives fun r w' => r = .tuple #[.pointer none, .int .u16 (badCode sizes)] ∧ Many W w' 0 (fun _ => 0) (fun _ => B0) [])) := fun w h => h.new_bad HSZ.out hok
    generalize badCode sizes = bc at *
    go_enter Try.func6, Try.ntmps6
    go_wp2_with (first | (go_at_call 23; refine (HM2.out _ HK1.out).mono ?_; rintro e w2 ⟨v, rfl, c2, rfl, hk, hc⟩; have HC2 := Lib.hid hc; have H2 := Lib.hid (((HS0.out.quiet HK1.out).quiet (Keep.alloc NoF _ _)).quiet hk); clear hk hc) | (go_at_call 23; go_must (refine HM.out.mono ?_); rintro e w1 ⟨v, rfl, c, rfl, hk, hc⟩; have HC := Lib.hid hc; have HK1 := Lib.hid hk; clear hk hc) | (go_at_call 24; go_must (refine (HNB.out _ H2.out).mono ?_); rintro e w3 ⟨v, rfl, rfl, hv⟩; have H3 := Lib.hid hv; clear hv) | (go_at_call 25; go_must (refine (HK25.out _).mono ?_); rintro e w5 ⟨v, rfl, rfl, hv⟩; have H5 := Lib.hid (H3.out.past hv); clear hv))
    · go_ret
      exact ⟨_, rfl, rfl, (HS0.out.quiet HK1.out).old⟩
    · go_ret
      exact ⟨_, rfl, rfl, H2.out.old⟩
    · go_ret
      exact ⟨_, rfl, rfl, H5.out.old⟩
end Go.Proofs.Ytghnbbpoaeheaaa
