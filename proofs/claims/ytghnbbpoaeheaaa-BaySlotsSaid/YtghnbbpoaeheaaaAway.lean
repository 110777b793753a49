/- BayAway, walked. -/
import Derived.Test.YtghnbbpoaeheaaaAwayLaw
import Derived.Test.YtghnbbpoaeheaaaTwo
import Derived.StillTailTactics
namespace Go.Proofs.Ytghnbbpoaeheaaa
open Go.RowKit

theorem hvF_old {W : World} {F : Nat → Prop} {v : Value} {l : List Int} (h : BytesAt W v l) (hF : ∀ x, F x → W.heap.size ≤ x) : l ≠ [] → ∀ a n c, v = .slice (some a) n c → ¬ F a.block := fun hne a n c hva hf => by
  obtain ⟨a', cap, hv, h1, h2, h3⟩ := h
  obtain ⟨bb, o, ha, hr⟩ := h3 hne
  rw [hva] at hv
  simp at hv
  obtain ⟨x, hx⟩ := List.exists_mem_of_ne_nil _ hne
  obtain ⟨j, hj, rfl⟩ := List.mem_iff_getElem.1 hx
  have hc := hr j (.int .u8 l[j]) (by simp [u8s, hj])
  have hlt := World.block_lt_of_cell? W _ hc
  have hge := hF _ hf
  have : a = ⟨bb, o, none⟩ := by rw [ha] at hv; exact Option.some.inj hv.1
  subst this
  exact absurd hlt (by simpa using hge)

/-- One bay and the bytes that the call holds. -/
def Sole (W : World) (b : Nat) (B : By) (L : List (Value × List Int)) (w : World) : Prop := Many W w 1 (fun _ => b) (fun _ => B) L
section
variable {W w : World} {b : Nat} {B : By} {L : List (Value × List Int)}
theorem Sole.writeArg (h : Sole W b B L w) (hs : B.Small 1000000) (k at_ : Int) {v : Value} {xs : List Int} (hv : BytesAt W v xs) : Calls Try.prog 41 #[.pointer (some ⟨b, 0, none⟩), .int .i64 k, .int .i64 at_, v] w (Gives fun v w' => v = .int .u16 (B.opcode k (fun D => D.wcode at_ xs.length)) ∧ Sole W b (B.op k 4 (fun D => D.write at_ xs)) L w') := by
  have ho := Many.old h
  obtain ⟨F, hb, hF, hst⟩ := Many.step h 0 (by omega)
  exact Gives.imp (bwrite_any hb k at_ v xs (hv.old ho) (hvF_old hv hF) hs.cw hs.list) fun v w' hg => ⟨hg.1, (hst _ _ hg.2).1.one⟩
theorem Sole.flush (h : Sole W b B L w) (hs : B.Small 1000000) (k : Int) : Calls Try.prog 42 #[.pointer (some ⟨b, 0, none⟩), .int .i64 k] w (Gives fun v w' => v = .int .u16 (B.opcode k Dk.fcode) ∧ Sole W b (B.op k 5 Dk.flush) L w') :=
  Gives.imp (Many.flush h 0 (by omega) hs k) fun v w' hg => ⟨hg.1, hg.2.1.one⟩
theorem Sole.image (h : Sole W b B L w) (k : Int) {c : Int} {l : List Int} (hc : B.tcode k = c) (hl : B.image k = l) : Calls Try.prog 34 #[.pointer (some ⟨b, 0, none⟩), .int .i64 k] w (Gives fun v w' => ∃ x cap, v = .tuple #[.slice x l.length cap, .int .u16 c] ∧ Sole W b B ((.slice x l.length cap, l) :: L) w') := by
  subst hc hl
  exact Gives.imp (Many.image h 0 (by omega) k) fun v w' hg => by
    obtain ⟨s, h1, h2, _⟩ := hg
    obtain ⟨x, cap, rfl⟩ := own_form (h2.own List.mem_cons_self)
    exact ⟨x, cap, h1, h2⟩
theorem Sole.pull (h : Sole W b B L w) (hs : B.Small 1000000) (k : Int) : Calls Try.prog 44 #[.pointer (some ⟨b, 0, none⟩), .int .i64 k] w (Gives fun v w' => v = .int .u16 (B.tcode k) ∧ Sole W b (B.pull k) L w') := by
  obtain ⟨F, hb, hF, hst⟩ := Many.step h 0 (by omega)
  exact Gives.imp (pull_any hb k hs.list) fun v w' hg => ⟨hg.1, (hst _ _ hg.2).1.one⟩
theorem Sole.push (h : Sole W b B L w) (k : Int) : Calls Try.prog 46 #[.pointer (some ⟨b, 0, none⟩), .int .i64 k] w (Gives fun v w' => v = .int .u16 (B.pushc k) ∧ Sole W b (B.push k) L w') := by
  obtain ⟨F, hb, hF, hst⟩ := Many.step h 0 (by omega)
  exact Gives.imp (push_any hb k) fun v w' hg => ⟨hg.1, (hst _ _ hg.2).1.one⟩
theorem Sole.has (h : Sole W b B L w) (k : Int) : Calls Try.prog 27 #[.pointer (some ⟨b, 0, none⟩), .int .i64 k] w fun e w' => e = .returned (.bool (B.has k)) ∧ w = w' := Many.has h 0 (by omega) k
theorem Sole.sectors (h : Sole W b B L w) (k : Int) : Calls Try.prog 45 #[.pointer (some ⟨b, 0, none⟩), .int .i64 k] w fun e w' => e = .returned (.int .i64 (B.sectors k)) ∧ w = w' := by
  obtain ⟨F, hb, hF, hst⟩ := Many.step h 0 (by omega)
  exact bsectors_any hb k
theorem Sole.read (h : Sole W b B L w) (hs : B.Small 1000000) (k at_ : Int) : Calls Try.prog 47 #[.pointer (some ⟨b, 0, none⟩), .int .i64 k, .int .i64 at_] w (Gives fun v w' => ∃ s, v = .tuple #[s, .int .u16 (B.opcode k (fun D => D.code at_))] ∧ Sole W b (B.op k 3 id) L w') :=
  Gives.imp (Many.read h 0 (by omega) hs k at_) fun v w' hg => by
    obtain ⟨s, h1, h2, _⟩ := hg
    exact ⟨s, h1, (h2.less fun q hq => List.mem_cons_of_mem _ hq).one⟩
theorem Sole.pending (h : Sole W b B L w) (hs : B.Small 1000000) (k : Int) : Calls Try.prog 40 #[.pointer (some ⟨b, 0, none⟩), .int .i64 k] w (Gives fun v w' => ∃ x cap, v = .slice x (B.pending k).length cap ∧ Sole W b B L w') := by
  obtain ⟨F, hb, hF, hst⟩ := Many.step h 0 (by omega)
  refine Gives.imp (bpending_any hb k (fun d hd => by have := Small.of_in hs hd; omega)) fun v w' hg => ?_
  obtain ⟨x, cap, hx⟩ := own_form hg.1
  exact ⟨x, cap, by simpa [ints] using hx, h.quiet hg.2⟩
theorem Sole.cut (h : Sole W b B L w) (hs : B.Small 1000000) {a : Option Addr} {c : Nat} {l : List Bool} (hk : BoolsAt W (.slice a l.length c) l) :
    Calls Try.prog 33 #[.pointer (some ⟨b, 0, none⟩), .slice (some ⟨w.heap.size, 0, none⟩) 2 2] (w.alloc (.cells #[.slice a l.length c, .slice a l.length c] 57)) (Gives fun v w' => v = .tuple #[] ∧ Sole W b (B.cutg [(.slice a l.length c, l), (.slice a l.length c, l)]) L w') := by
  have hW : Keep (Old W) W (w.alloc (.cells #[.slice a l.length c, .slice a l.length c] 57)) := (Many.old h).ofNoF (Keep.alloc _ _ _)
  have h2 : Many W (w.alloc (.cells #[.slice a l.length c, .slice a l.length c] 57)) 1 (fun _ => b) (fun _ => B) L := Many.quiet h (Keep.alloc _ _ _)
  obtain ⟨F, hb, hF, hst⟩ := Many.step h2 0 (by omega)
  refine Gives.imp (cutg_core hb (kc := 2) (kl := [(.slice a l.length c, l), (.slice a l.length c, l)]) (by simp [far]) (fun wr F1 hk1 hF1 i hi => ?_) hs) fun v w' hg => ⟨hg.1, (hst _ _ hg.2).1.one⟩
  have hnew := heap_alloc_new w (.cells #[.slice a l.length c, .slice a l.length c] 57)
  have hrow := hk1.at hnew (hb.apart_of_type hnew (by decide))
  have e : keepsFor [(Value.slice a l.length c, l), (Value.slice a l.length c, l)] i = l := by
    have hi' : i < 2 := hi
    rcases (by omega : i = 0 ∨ i = 1) with rfl | rfl <;> rfl
  rw [e]
  refine ⟨w.heap.size, 0, a, c, rfl, cell_at hrow (0 + i) ?_, hk.old (hW.trans' (hk1.mono fun x _ hx => hF x hx)), fun a' n c' he hne hf => ?_⟩
  · have hi' : i < 2 := hi
    rcases (by omega : i = 0 ∨ i = 1) with rfl | rfl <;> rfl
  · obtain ⟨a0, c0, hv, _, h3⟩ := hk
    obtain ⟨b2, o2, rfl, hr2⟩ := h3 hne
    simp only [Value.slice.injEq] at hv he
    obtain ⟨y, hy⟩ := List.exists_mem_of_ne_nil _ hne
    obtain ⟨j, hj, rfl⟩ := List.mem_iff_getElem.1 hy
    have hlt := World.block_lt_of_cell? W ⟨b2, o2 + j, none⟩ (hr2 j (.bool l[j]) (by simp [hj]))
    have e1 : a' = ⟨b2, o2, none⟩ := by
      have := he.1.symm.trans hv.1
      exact Option.some.inj this
    subst e1
    have hsz := hW.size
    rcases hF1 _ hf with hx | hx
    · have := hF _ hx; simp only at this hlt; omega
    · simp only at hx hlt; omega
end

theorem sole_new {W w : World} (h : Many W w 0 (fun _ => 0) (fun _ => B0) []) {x y : Int} (hok : sizeOk x ∧ sizeOk y) :
    Calls Try.prog 24 #[.slice (some ⟨w.heap.size, 0, none⟩) 2 2] (w.alloc (.cells #[.int .i64 x, .int .i64 y] 3)) (Gives fun r w' => ∃ b, r = .tuple #[.pointer (some ⟨b, 0, none⟩), .int .u16 0] ∧ Sole W b (By.fresh [x, y] 2) [] w') :=
  Gives.imp (new_two_ok h hok) fun v w' hg => by
    obtain ⟨b, h1, F, k1, k2, k3, k4, k5⟩ := hg
    refine ⟨b, h1, F, fun i hi => ?_, k2, k3, k4, k5⟩
    have := k1 i hi
    obtain rfl : i = 0 := by omega
    exact this
theorem away_start {s : Int} (hs : s ≠ 0) : ∃ fl, Away fl (By.fresh [s, 1] 2) :=
  ⟨_, rfl, ⟨rfl, rfl⟩, ⟨Dk.new s.toNat, by simp [By.fresh, freshDev, hs], rfl, rfl⟩, by simp [By.fresh], by simp [By.fresh], by simp [By.fresh]⟩
theorem Small.push {B : By} {m : Int} (h : B.Small m) (k : Int) : (B.push k).Small m := by
  unfold By.push
  split
  · refine ⟨h.cr, h.cw, h.cf, fun j e he => ?_⟩
    simp only [moved] at he
    split at he
    · cases he
    · exact h.cl _ e he
  · exact h
/-- How far BayAway's loop has come. -/
def AwayAt (W : World) (b : Nat) (fl : List Int) (x : Option Addr) (cap i : Nat) (w : World) : Prop := ∃ B, Sole W b B [(.slice x fl.length cap, fl)] w ∧ Away fl B ∧ B.Small (2 * i)

set_option maxRecDepth 100000 in
set_option maxHeartbeats 2000000 in
theorem away_any {W : World} {ov : Value} {ops : List OpD} {a : Option Addr} {kc : Nat} {l : List Bool} (s n : Int) (hs : inI64 s) (hn : inI64 n) (ho : OpsAt W ov ops) (hk : BoolsAt W (.slice a l.length kc) l) (hl : l.length ≤ far) :
    Calls Try.prog 9 #[.int .i64 s, ov, .int .i64 n, .slice a l.length kc] W (Gives fun v w' => v = .bool true ∧ Keep (Old W) W w') := by
  have HM := Lib.hid (much_any (W := W) (sv := .slice none 0 0) (sizes := []) ⟨none, 0, rfl, by simp [maxLen], fun h => absurd rfl h⟩ (by simp [far]) (by simp) ho)
  have HO := Lib.hid ho
  have HKB := Lib.hid hk
  obtain ⟨oa, oc, rfl, -, -, -⟩ := ho
  unfold far at hl
  have HS0 : Hid (Many W W 0 (fun _ => 0) (fun _ => B0) []) := Many.start0 _ _ _
  have HK25 : Hid (∀ w, Calls Try.prog 25 #[] w (Gives fun v w' => v = .bool true ∧ Keep (Old w) w w')) := fun w => known_any w
  clear hk
  by_cases hbig : 100000 < l.length
  · go_enter Try.func9, Try.ntmps9
    go_wp2_with (go_at_call 23; go_must (refine HM.out.mono ?_); rintro e w1 ⟨v, rfl, c, rfl, hk, hc⟩; have HK1 := Lib.hid hk; clear hk hc)
    all_goals go_ret
    all_goals exact ⟨_, rfl, rfl, (HS0.out.quiet HK1.out).old⟩
  · by_cases hok : sizeOk s ∧ sizeOk 1
    · by_cases hs0 : s = 0
      · subst hs0
        go_enter Try.func9, Try.ntmps9
        go_wp2_with (first | (go_at_call 23; go_must (refine HM.out.mono ?_); rintro e w1 ⟨v, rfl, c, rfl, hk, hc⟩; have HK1 := Lib.hid hk; clear hk hc) | (go_at_call 24; go_must (refine (sole_new (HS0.out.quiet HK1.out) hok).mono ?_); rintro e w2 ⟨v, rfl, b, rfl, hv⟩; have H2 := Lib.hid hv; clear hv) | (go_at_call 25; go_must (refine (HK25.out _).mono ?_); rintro e w3 ⟨v, rfl, rfl, hv⟩; have H3 := Lib.hid (Many.past H2.out hv); clear hv))
        · go_ret
          exact ⟨_, rfl, rfl, (HS0.out.quiet HK1.out).old⟩
        · go_ret
          exact ⟨_, rfl, rfl, H3.out.old⟩
      · have hs0b : (s == 0) = false := by simpa using hs0
        obtain ⟨fl0, haw⟩ := away_start hs0
        have HIM : Hid (∀ w b, Sole W b (By.fresh [s, 1] 2) [] w → Calls Try.prog 34 #[.pointer (some ⟨b, 0, none⟩), .int .i64 0] w (Gives fun v w' => ∃ x cap, v = .tuple #[.slice x fl0.length cap, .int .u16 0] ∧ AwayAt W b fl0 x cap 0 w')) := fun w b h =>
          Gives.imp (Sole.image h 0 (away_image haw).2.1 (away_image haw).1) fun v w' hg => by
            obtain ⟨x, cap, e1, e2⟩ := hg
            exact ⟨x, cap, e1, _, e2, haw, fresh_small _ _⟩
        clear haw
        go_enter Try.func9, Try.ntmps9
        go_wp2_with (first | (go_at_call 23; go_must (refine HM.out.mono ?_); rintro e w1 ⟨v, rfl, c, rfl, hk, hc⟩; have HC := Lib.hid hc; have HK1 := Lib.hid hk; clear hk hc) | (go_at_call 24; go_must (refine (sole_new (HS0.out.quiet HK1.out) hok).mono ?_); rintro e w2 ⟨v, rfl, b, rfl, hv⟩; have H2 := Lib.hid hv; clear hv) | (go_at_call 25; go_must (refine (HK25.out _).mono ?_); rintro e w3 ⟨v, rfl, rfl, hv⟩; have H3 : Hid (Sole W b (By.fresh [s, 1] 2) [] w3) := Many.past H2.out hv; clear hv) | (go_at_call 34; go_must (refine (HIM.out _ _ H3.out).mono ?_); rintro e w4 ⟨v, rfl, x, cap, rfl, hv⟩; have H4 := Lib.hid hv; clear hv))
        · go_ret
          exact ⟨_, rfl, rfl, (HS0.out.quiet HK1.out).old⟩
        · have hlen : ops.length ≤ 100000 := by have := HC.out (by first | assumption | simpa using ‹¬ c = true›); simpa using this
          clear HC HM HS0 HK25 HIM H2 H3 HK1
          go_loopw [11, 12, 13] (fun f g t wr => ∃ (i : Nat) (fl : List Int) (x : Option Addr) (cap : Nat), i ≤ ops.length ∧ t = .int .i64 i ∧ f = .slice x fl.length cap ∧ g = .int .u16 0 ∧ AwayAt W b fl x cap i wr) (fun _ _ t _ => ops.length - (intOf t).toNat)
          case atStart => exact ⟨0, fl0, x, cap, Nat.zero_le _, rfl, rfl, rfl, H4.out⟩
          case round =>
            obtain ⟨i, fl, x, cap, hi, rfl, rfl, rfl, B, hm, haw, hB⟩ := hrel
            clear H4
            by_cases hlt : i < ops.length
            · obtain ⟨d, hd⟩ : ∃ d, ops[i]? = some d := ⟨_, List.getElem?_eq_getElem hlt⟩
              obtain ⟨bb, o, cap', hv, hda, hdc⟩ := HO.out.get hd
              have hdcw := hdc wr (Many.old hm)
              simp only [Value.slice.injEq, true_and] at hv
              obtain ⟨rfl, rfl⟩ := hv
              have hB6 := hB.mono (m' := 1000000) (by omega)
              obtain ⟨kind, slot, nn, bv, bl, kv, kl2⟩ := d
              obtain ⟨ba, bcap, hbv, -, -, -⟩ := hda.b
              simp only at hbv
              subst hbv
              obtain ⟨⟨x0, x1, x2⟩, x3, x4⟩ := op_cells hdcw
              obtain ⟨hk1, hk2⟩ := hda.kind
              have hB1 := Small.op hB 0 4 (fun D => D.write nn bl) (fun D => write_cache D _ _)
              have HWR : Hid (∀ w, Sole W b B [(.slice x fl.length cap, fl)] w → Calls Try.prog 41 #[.pointer (some ⟨b, 0, none⟩), .int .i64 0, .int .i64 nn, .slice ba bl.length bcap] w (Gives fun v w' => ∃ c, v = .int .u16 c ∧ Sole W b (B.op 0 4 (fun D => D.write nn bl)) [(.slice x fl.length cap, fl)] w')) := fun w h =>
                Gives.imp (Sole.writeArg h hB6 0 nn hda.b) fun v w' hg => ⟨_, hg.1, hg.2⟩
              have haw1 := away_write haw nn bl
              obtain ⟨fl', haw2⟩ := away_flush haw1
              have HNX1 : Hid (∀ w, Sole W b (B.op 0 4 (fun D => D.write nn bl)) [(.slice x fl.length cap, fl)] w → AwayAt W b fl x cap (i + 1) w) := fun w h => ⟨_, h, haw1, hB1.mono (by omega)⟩
              have HFL : Hid (∀ w, Sole W b (B.op 0 4 (fun D => D.write nn bl)) [(.slice x fl.length cap, fl)] w → Calls Try.prog 42 #[.pointer (some ⟨b, 0, none⟩), .int .i64 0] w (Gives fun v w' => ∃ c, v = .int .u16 c ∧ Sole W b ((B.op 0 4 (fun D => D.write nn bl)).op 0 5 Dk.flush) [(.slice x fl.length cap, fl)] w')) := fun w h =>
                Gives.imp (Sole.flush h (hB1.mono (by omega)) 0) fun v w' hg => ⟨_, hg.1, hg.2⟩
              have HIM : Hid (∀ w, Sole W b ((B.op 0 4 (fun D => D.write nn bl)).op 0 5 Dk.flush) [(.slice x fl.length cap, fl)] w → Calls Try.prog 34 #[.pointer (some ⟨b, 0, none⟩), .int .i64 0] w (Gives fun v w' => ∃ x cap, v = .tuple #[.slice x fl'.length cap, .int .u16 0] ∧ AwayAt W b fl' x cap (i + 1) w')) := fun w h =>
                Gives.imp (Sole.image h 0 (away_image haw2).2.1 (away_image haw2).1) fun v w' hg => by
                  obtain ⟨x, cap, e1, e2⟩ := hg
                  refine ⟨x, cap, e1, _, e2.less (fun q hq => ?_), haw2, (Small.op hB1 0 5 Dk.flush (fun D => by unfold Dk.flush; split <;> simp [Dk.settle])).mono (by omega)⟩
                  rcases List.mem_cons.1 hq with rfl | hq
                  · exact List.mem_cons_self
                  · cases hq
              have HM0 := Lib.hid hm
              have HSK : Hid (AwayAt W b fl x cap (i + 1) wr) := ⟨B, hm, haw, hB.mono (by omega)⟩
              have HMD : Hid (Sole W b B [(.slice x fl.length cap, fl)] wr.drew) := Many.quiet hm (Keep.drew _ _)
              clear hm haw hB hB6 hda hdc hdcw hd hB1 haw1 haw2 HO HKB
              by_cases hk2' : kind = 2
              · subst hk2'
                go_wp2
                go_still_tail 11, (by kernel_rfl)
                change wpList _ _ _ _ _ wr.drew
                generalize wr.drew = wd at *
                by_cases hat : n = (i : Int)
                · subst hat
                  go_wp2_with (first | (go_at_call 41; go_must (refine (HWR.out _ HMD.out).mono ?_); rintro e w5 ⟨v, rfl, c, rfl, hv⟩; have H5 := Lib.hid hv; clear hv) | (go_at_call 42; go_must (refine (HFL.out _ H5.out).mono ?_); rintro e w6 ⟨v, rfl, c, rfl, hv⟩; have H6 := Lib.hid hv; clear hv) | (go_at_call 34; go_must (refine (HIM.out _ H6.out).mono ?_); rintro e w7 ⟨v, rfl, x', cap', rfl, hv⟩; have H7 := Lib.hid hv; clear hv))
                  exact ⟨⟨i + 1, fl', x', cap', by omega, by go_num, rfl, rfl, H7.out⟩, by simp [intOf]; omega⟩
                · have hatb : ((i : Int) == n) = false := by simp; omega
                  go_wp2_with (go_at_call 41; go_must (refine (HWR.out _ HMD.out).mono ?_); rintro e w5 ⟨v, rfl, c, rfl, hv⟩; have H5 := Lib.hid hv; clear hv)
                  exact ⟨⟨i + 1, fl, x, cap, by omega, by go_num, rfl, rfl, HNX1.out _ H5.out⟩, by simp [intOf]; omega⟩
              · have hkb : (kind != 2) = true := by simpa using hk2'
                go_wp2
                exact ⟨⟨i + 1, fl, x, cap, by omega, by go_num, rfl, rfl, HSK.out⟩, by simp [intOf]; omega⟩
            · obtain rfl : i = ops.length := by omega
              obtain ⟨⟨t1, t2, t3⟩, ⟨t4, t5⟩, ⟨t6, t7⟩, t8, t9, t10, t11⟩ := away_end haw [(.slice a l.length kc, l), (.slice a l.length kc, l)]
              have s0 := hB.mono (m' := 400000) (by omega)
              have s1 := Small.pull s0 (by omega) 0
              have HPU : Hid (∀ w L, Sole W b B L w → Calls Try.prog 44 #[.pointer (some ⟨b, 0, none⟩), .int .i64 0] w (Gives fun v w' => v = .int .u16 0 ∧ Sole W b (B.pull 0) L w')) := fun w L h => by have := Sole.pull h (s0.mono (by omega)) 0; rw [t1] at this; exact this
              have HH1 : Hid (∀ w L, Sole W b (B.pull 0) L w → Calls Try.prog 27 #[.pointer (some ⟨b, 0, none⟩), .int .i64 0] w fun e w' => e = .returned (.bool false) ∧ w = w') := fun w L h => by have := Sole.has h 0; rw [t2] at this; exact this
              have HSE : Hid (∀ w L, Sole W b (B.pull 0) L w → Calls Try.prog 45 #[.pointer (some ⟨b, 0, none⟩), .int .i64 0] w fun e w' => e = .returned (.int .i64 0) ∧ w = w') := fun w L h => by have := Sole.sectors h 0; rw [t3] at this; exact this
              have HP1 : Hid (∀ w L, Sole W b (B.pull 0) L w → Calls Try.prog 46 #[.pointer (some ⟨b, 0, none⟩), .int .i64 0] w (Gives fun v w' => v = .int .u16 0 ∧ Sole W b ((B.pull 0).push 0) L w')) := fun w L h => by have := Sole.push h 0; rw [t4] at this; exact this
              have s2 := Small.push s1 0
              have HRD : Hid (∀ w L, Sole W b ((B.pull 0).push 0) L w → Calls Try.prog 47 #[.pointer (some ⟨b, 0, none⟩), .int .i64 0, .int .i64 0] w (Gives fun v w' => ∃ s, v = .tuple #[s, .int .u16 51] ∧ Sole W b (((B.pull 0).push 0).op 0 3 id) L w')) := fun w L h => by have := Sole.read h (s2.mono (by omega)) 0 0; rw [t5] at this; exact this
              have s3 := Small.op s2 0 3 id (fun D => by simp)
              have HH3 : Hid (∀ w L, Sole W b (((B.pull 0).push 0).op 0 3 id) L w → Calls Try.prog 27 #[.pointer (some ⟨b, 0, none⟩), .int .i64 0] w fun e w' => e = .returned (.bool false) ∧ w = w') := fun w L h => by have := Sole.has h 0; rw [t6] at this; exact this
              have HP3 : Hid (∀ w L, Sole W b (((B.pull 0).push 0).op 0 3 id) L w → Calls Try.prog 46 #[.pointer (some ⟨b, 0, none⟩), .int .i64 0] w (Gives fun v w' => v = .int .u16 51 ∧ Sole W b ((((B.pull 0).push 0).op 0 3 id).push 0) L w')) := fun w L h => by have := Sole.push h 0; rw [t7] at this; exact this
              have s4 : ((((B.pull 0).push 0).op 0 3 id).push 0).Small 1000000 := Small.push (s3.mono (by omega)) 0
              have HCU : Hid (∀ w L, Sole W b ((((B.pull 0).push 0).op 0 3 id).push 0) L w → Calls Try.prog 33 #[.pointer (some ⟨b, 0, none⟩), .slice (some ⟨w.heap.size, 0, none⟩) 2 2] (w.alloc (.cells #[.slice a l.length kc, .slice a l.length kc] 57)) (Gives fun v w' => v = .tuple #[] ∧ Sole W b (((((B.pull 0).push 0).op 0 3 id).push 0).cutg [(.slice a l.length kc, l), (.slice a l.length kc, l)]) L w')) := fun w L h => Sole.cut h s4 HKB.out
              have s5 := Small.cutg s4 (by omega) [(.slice a l.length kc, l), (.slice a l.length kc, l)]
              generalize ((((B.pull 0).push 0).op 0 3 id).push 0).cutg [(.slice a l.length kc, l), (.slice a l.length kc, l)] = B5 at *
              have HIM : Hid (∀ w L, Sole W b B5 L w → Calls Try.prog 34 #[.pointer (some ⟨b, 0, none⟩), .int .i64 0] w (Gives fun v w' => ∃ x cap, v = .tuple #[.slice x fl.length cap, .int .u16 0] ∧ Sole W b B5 ((.slice x fl.length cap, fl) :: L) w')) := fun w L h => Sole.image h 0 t8 t9
              have HH5 : Hid (∀ w L, Sole W b B5 L w → Calls Try.prog 27 #[.pointer (some ⟨b, 0, none⟩), .int .i64 0] w fun e w' => e = .returned (.bool true) ∧ w = w') := fun w L h => by have := Sole.has h 0; rw [t10] at this; exact this
              have HPE : Hid (∀ w L, Sole W b B5 L w → Calls Try.prog 40 #[.pointer (some ⟨b, 0, none⟩), .int .i64 0] w (Gives fun v w' => ∃ x cap, v = .slice x 0 cap ∧ Sole W b B5 L w')) := fun w L h => by have := Sole.pending h s5 0; rw [t11] at this; exact this
              have HSA : Hid (∀ w L (v1 v2 : Value), Sole W b B5 L w → (v1, fl) ∈ L → (v2, fl) ∈ L → Calls Try.prog 19 #[v1, v2] w (Gives fun v w' => v = .bool true ∧ Sole W b B5 L w')) := fun w L v1 v2 h m1 m2 =>
                Gives.imp (Many.same h m1 m2) fun v w' hg => ⟨hg.1.trans (by simp), hg.2.1⟩
              have HM0 : Hid (Sole W b B [(.slice x fl.length cap, fl)] wr) := hm
              generalize (((B.pull 0).push 0).op 0 3 id).push 0 = B4 at *
              generalize ((B.pull 0).push 0).op 0 3 id = B3 at *
              generalize (B.pull 0).push 0 = B2 at *
              generalize B.pull 0 = B1' at *
              clear hm haw hB t1 t2 t3 t4 t5 t6 t7 t8 t9 t10 t11 s0 s1 s2 s3 s4 s5 HO HKB hlt
              go_wp2_with (first | (go_at_call 44; go_must (refine (HPU.out _ _ HM0.out).mono ?_); rintro e w5 ⟨v, rfl, rfl, hv⟩; have K1 := Lib.hid hv; clear hv) | (go_at_call 45; go_must (refine (HSE.out _ _ K1.out).mono ?_); rintro e wz ⟨rfl, rfl⟩) | (go_at_call 27; refine (HH5.out _ _ K6.out).mono ?_; rintro e wz ⟨rfl, rfl⟩) | (go_at_call 27; refine (HH3.out _ _ K3.out).mono ?_; rintro e wz ⟨rfl, rfl⟩) | (go_at_call 27; go_must (refine (HH1.out _ _ K1.out).mono ?_); rintro e wz ⟨rfl, rfl⟩) | (go_at_call 46; refine (HP3.out _ _ K3.out).mono ?_; rintro e w8 ⟨v, rfl, rfl, hv⟩; have K4 := Lib.hid hv; clear hv) | (go_at_call 46; go_must (refine (HP1.out _ _ K1.out).mono ?_); rintro e w6 ⟨v, rfl, rfl, hv⟩; have K2 := Lib.hid hv; clear hv) | (go_at_call 47; go_must (refine (HRD.out _ _ K2.out).mono ?_); rintro e w7 ⟨v, rfl, s9, rfl, hv⟩; have K3 := Lib.hid hv; clear hv) | (go_at_call 33; go_must (refine (HCU.out _ _ K4.out).mono ?_); rintro e w9 ⟨v, rfl, rfl, hv⟩; have K5 := Lib.hid hv; clear hv) | (go_at_call 34; go_must (refine (HIM.out _ _ K5.out).mono ?_); rintro e w10 ⟨v, rfl, x6, cap6, rfl, hv⟩; have K6 := Lib.hid hv; clear hv) | (go_at_call 19; go_must (refine (HSA.out _ _ _ _ K6.out List.mem_cons_self (List.mem_cons_of_mem _ List.mem_cons_self)).mono ?_); rintro e w11 ⟨v, rfl, rfl, hv⟩; have K7 := Lib.hid hv; clear hv) | (go_at_call 40; go_must (refine (HPE.out _ _ K7.out).mono ?_); rintro e w12 ⟨v, rfl, x8, cap8, rfl, hv⟩; have K8 := Lib.hid hv; clear hv))
              go_ret
              exact ⟨_, rfl, rfl, Many.old K8.out⟩
    · go_enter Try.func9, Try.ntmps9
      go_wp2_with (first | (go_at_call 23; go_must (refine HM.out.mono ?_); rintro e w1 ⟨v, rfl, c, rfl, hk, hc⟩; have HK1 := Lib.hid hk; clear hk hc) | (go_at_call 24; go_must (refine (new_two_bad (HS0.out.quiet HK1.out) hok).mono ?_); rintro e w2 ⟨v, rfl, rfl, hv⟩; have H2 := Lib.hid hv; clear hv) | (go_at_call 25; go_must (refine (HK25.out _).mono ?_); rintro e w3 ⟨v, rfl, rfl, hv⟩; have H3 := Lib.hid (Many.past H2.out hv); clear hv))
      · go_ret
        exact ⟨_, rfl, rfl, (HS0.out.quiet HK1.out).old⟩
      · go_ret
        exact ⟨_, rfl, rfl, H3.out.old⟩
end Go.Proofs.Ytghnbbpoaeheaaa
