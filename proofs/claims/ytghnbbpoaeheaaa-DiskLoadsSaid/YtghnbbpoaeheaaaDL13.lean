/- BayTrips, walked. -/
import Derived.Test.YtghnbbpoaeheaaaDL10
namespace Go.Proofs.Ytghnbbpoaeheaaa
open Go.RowKit

section
variable {W w : World} {a b : Nat} {A B A' B' : By} {L : List (Value × List Int)} {g : Nat} {d : OpD}
theorem Wt.total (h : Wt W a b A B g d L w) (hs : B.Small 1000000) : Calls Try.prog 32 #[.pointer (some ⟨b, 0, none⟩)] w (Gives fun v w' => v = .int .i64 B.total ∧ Wt W a b A B g d L w') :=
  Gives.imp (Many.total h.1 1 (by omega) hs) fun v w' hg => ⟨hg.1, hg.2.1, hg.2.2 _ _ _ _ h.2 (by decide)⟩
theorem Wt.dark (h : Wt W a b A B g d L w) : Calls Try.prog 31 #[.pointer (some ⟨b, 0, none⟩)] w fun e w' => e = .returned (.bool B.dark) ∧ w = w' := Many.dark h.1 1 (by omega)
end
/-- The operation that only has keeps. -/
theorem keeps_op {W w : World} {kv : Value} {kl : List (Value × List Bool)} (hw : Keep NoF W w) (hk : KeepsAt W kv kl) :
    OpsAt (w.alloc (.cells #[.int .i64 0, .int .i64 0, .int .i64 0, .slice none 0 0, kv] 69)) (.slice (some ⟨w.heap.size, 0, none⟩) 1 1) [⟨0, 0, 0, .slice none 0 0, [], kv, kl⟩] := by
  have hk2 : Keep (Old W) W (w.alloc (.cells #[.int .i64 0, .int .i64 0, .int .i64 0, .slice none 0 0, kv] 69)) := (hw.trans' (Keep.alloc _ _ _)).mono fun _ _ h => h.elim
  refine ⟨_, 1, rfl, by simp [far], fun _ => ⟨w.heap.size, 0, rfl, fun i d hd => ?_⟩, fun d hd => ?_⟩
  · have hi : i = 0 := by have := (List.getElem?_eq_some_iff.1 hd).1; simpa using this
    subst hi
    obtain rfl : (⟨0, 0, 0, .slice none 0 0, [], kv, kl⟩ : OpD) = d := by simpa using hd
    exact range_at (heap_alloc_new w _) 0 _ rfl
  · obtain rfl : d = ⟨0, 0, 0, .slice none 0 0, [], kv, kl⟩ := by simpa using hd
    exact ⟨by unfold inI64; simp only; omega, by unfold inI64; simp only; omega, by unfold inI64; simp only; omega, ⟨none, 0, rfl, Nat.le_refl _, by simp [maxLen], fun h => absurd rfl h⟩, by simp [far], hk.old hk2⟩
/-- How far BayTrips' first loop has come. -/
def TripsAt (W : World) (a b : Nat) (n : Int) (m i : Nat) (dk : Bool) (w : World) : Prop :=
  ∃ A B, Many W w 2 (pt a b) (two A B) [] ∧ Tripping n m dk A B ∧ A.Small i ∧ B.Small i ∧ A.NoneComing ∧ B.NoneComing

section
variable {W w : World} {a b : Nat} {A B : By} {L : List (Value × List Int)}
theorem cutA (h : Many W w 2 (pt a b) (two A B) L) (hs : A.Small 1000000) (hnc : A.NoneComing) {kv : Value} {kl : List (Value × List Bool)} (hk : KeepsAt W kv kl) : Calls Try.prog 33 #[.pointer (some ⟨a, 0, none⟩), kv] w (Gives fun v w' => v = .tuple #[] ∧ Many W w' 2 (pt a b) (two (A.cut kl) B) L) :=
  Gives.imp (Many.cut h 0 (by omega) hs hnc hk) fun v w' hg => ⟨hg.1, hg.2.1.two0⟩
theorem cutB (h : Many W w 2 (pt a b) (two A B) L) (hs : B.Small 1000000) (hnc : B.NoneComing) {kv : Value} {kl : List (Value × List Bool)} (hk : KeepsAt W kv kl) : Calls Try.prog 33 #[.pointer (some ⟨b, 0, none⟩), kv] w (Gives fun v w' => v = .tuple #[] ∧ Many W w' 2 (pt a b) (two A (B.cut kl)) L) :=
  Gives.imp (Many.cut h 1 (by omega) hs hnc hk) fun v w' hg => ⟨hg.1, hg.2.1.two1⟩
/-- What Image hands back beside two bays. -/
def ImgPost (W : World) (a b : Nat) (A B : By) (L : List (Value × List Int)) (c : Int) (l : List Int) (v : Value) (w' : World) : Prop :=
  ∃ x cap, v = .tuple #[.slice x l.length cap, .int .u16 c] ∧ Many W w' 2 (pt a b) (two A B) ((.slice x l.length cap, l) :: L)
theorem imageA (h : Many W w 2 (pt a b) (two A B) L) (k : Int) : Calls Try.prog 34 #[.pointer (some ⟨a, 0, none⟩), .int .i64 k] w (Gives (ImgPost W a b A B L (A.tcode k) (A.image k))) :=
  Gives.imp (Many.image h 0 (by omega) k) fun v w' hg => by
    obtain ⟨s, h1, h2, _⟩ := hg
    obtain ⟨x, cap, rfl⟩ := own_form (h2.own List.mem_cons_self)
    exact ⟨x, cap, h1, h2⟩
theorem imageB (h : Many W w 2 (pt a b) (two A B) L) (k : Int) : Calls Try.prog 34 #[.pointer (some ⟨b, 0, none⟩), .int .i64 k] w (Gives (ImgPost W a b A B L (B.tcode k) (B.image k))) :=
  Gives.imp (Many.image h 1 (by omega) k) fun v w' hg => by
    obtain ⟨s, h1, h2, _⟩ := hg
    obtain ⟨x, cap, rfl⟩ := own_form (h2.own List.mem_cons_self)
    exact ⟨x, cap, h1, h2⟩
theorem countsAB (h : Many W w 2 (pt a b) (two A B) L) :
    Calls Try.prog 29 #[.pointer (some ⟨a, 0, none⟩)] w (Gives fun v w' => v = .agg #[.int .i64 A.cr, .int .i64 A.cw, .int .i64 A.cf] ∧ Many W w' 2 (pt a b) (two A B) L) ∧
    Calls Try.prog 29 #[.pointer (some ⟨b, 0, none⟩)] w (Gives fun v w' => v = .agg #[.int .i64 B.cr, .int .i64 B.cw, .int .i64 B.cf] ∧ Many W w' 2 (pt a b) (two A B) L) :=
  ⟨Gives.imp (Many.counts h 0 (by omega)) fun v w' hg => ⟨hg.1, hg.2.1⟩, Gives.imp (Many.counts h 1 (by omega)) fun v w' hg => ⟨hg.1, hg.2.1⟩⟩
end
/-- What one round's calls of plain leave, the operation written out: first the bay with the trip, then the other. -/
theorem trip_facts {W : World} {a b : Nat} {A B : By} {g : Nat} {k s n : Int} {ba ka : Option Addr} {bcap kcap : Nat} {bl : List Int} {kl : List (Value × List Bool)}
    (hA : A.Small 1000000) (hB : B.Small 1000000) (hd : OpAt W ⟨k, s, n, .slice ba bl.length bcap, bl, .slice ka kl.length kcap, kl⟩)
    {A' B' : By} {ca cb : Int} {la lb : List Int} (eA : A.plain ⟨k, s, n, .slice ba bl.length bcap, bl, .slice ka kl.length kcap, kl⟩ = A') (eB : B.plain ⟨k, s, n, .slice ba bl.length bcap, bl, .slice ka kl.length kcap, kl⟩ = B')
    (fA : A.plainc ⟨k, s, n, .slice ba bl.length bcap, bl, .slice ka kl.length kcap, kl⟩ = ca) (fB : B.plainc ⟨k, s, n, .slice ba bl.length bcap, bl, .slice ka kl.length kcap, kl⟩ = cb)
    (gA : A.plainl ⟨k, s, n, .slice ba bl.length bcap, bl, .slice ka kl.length kcap, kl⟩ = la) (gB : B.plainl ⟨k, s, n, .slice ba bl.length bcap, bl, .slice ka kl.length kcap, kl⟩ = lb) :
    (∀ L wa, Wt W a b A B g ⟨k, s, n, .slice ba bl.length bcap, bl, .slice ka kl.length kcap, kl⟩ L wa →
      Calls Try.prog 28 #[.pointer (some ⟨b, 0, none⟩), .agg #[.int .i64 k, .int .i64 s, .int .i64 n, .slice ba bl.length bcap, .slice ka kl.length kcap]] wa (Gives (WtRead W a b A B' g ⟨k, s, n, .slice ba bl.length bcap, bl, .slice ka kl.length kcap, kl⟩ L cb lb))) ∧
    ∀ L wa, Wt W a b A B' g ⟨k, s, n, .slice ba bl.length bcap, bl, .slice ka kl.length kcap, kl⟩ L wa →
      Calls Try.prog 28 #[.pointer (some ⟨a, 0, none⟩), .agg #[.int .i64 k, .int .i64 s, .int .i64 n, .slice ba bl.length bcap, .slice ka kl.length kcap]] wa (Gives (WtRead W a b A' B' g ⟨k, s, n, .slice ba bl.length bcap, bl, .slice ka kl.length kcap, kl⟩ L ca la)) := by
  subst eA eB fA fB gA gB
  exact ⟨fun L wa hwa => Wt.plainB hwa hB hd, fun L wa hwa => Wt.plainA hwa hA hd⟩
theorem Wt.cellsY {W w : World} {a b : Nat} {A B : By} {g : Nat} {k s n : Int} {bv kv : Value} {bl : List Int} {kl : List (Value × List Bool)} {L : List (Value × List Int)} (h : Wt W a b A B g ⟨k, s, n, bv, bl, kv, kl⟩ L w) :
    (w.cell? ⟨g, 0, none⟩ = some (.int .i64 k) ∧ w.cell? ⟨g, 1, none⟩ = some (.int .i64 s) ∧ w.cell? ⟨g, 2, none⟩ = some (.int .i64 n)) ∧ w.cell? ⟨g, 3, none⟩ = some bv ∧ w.cell? ⟨g, 4, none⟩ = some kv ∧ g < w.heap.size := h.cells

set_option maxRecDepth 100000 in
set_option maxHeartbeats 2000000 in
theorem trips_any {W : World} {sv ov kv : Value} {sizes : List Int} {ops : List OpD} {kl : List (Value × List Bool)} (n : Int) (hn : inI64 n) (hs : IntsAt W sv sizes) (hsl : sizes.length ≤ far) (hsi : ∀ s ∈ sizes, inI64 s) (ho : OpsAt W ov ops) (hk : KeepsAt W kv kl) :
    Calls Try.prog 5 #[sv, ov, .int .i64 n, kv] W (Gives fun v w' => v = .bool true ∧ Keep (Old W) W w') := by
  have HM := Lib.hid (much_any (W := W) hs hsl hsi ho)
  have HM2 : Hid (∀ w, Keep NoF W w → Calls Try.prog 23 #[sv, .slice (some ⟨w.heap.size, 0, none⟩) 1 1] (w.alloc (.cells #[.int .i64 0, .int .i64 0, .int .i64 0, .slice none 0 0, kv] 69)) (Gives (MuchPost (w.alloc (.cells #[.int .i64 0, .int .i64 0, .int .i64 0, .slice none 0 0, kv] 69)) (1 + sizes.length)))) := fun w hw =>
    much_any (W := w.alloc (.cells #[.int .i64 0, .int .i64 0, .int .i64 0, .slice none 0 0, kv] 69)) (hs.old ((hw.trans' (Keep.alloc _ _ _)).mono fun _ _ h => h.elim)) hsl hsi (keeps_op hw hk)
  have HO := Lib.hid ho
  have HKP := Lib.hid hk
  have HSZ := Lib.hid hs
  obtain ⟨oa, oc, rfl, -, -, -⟩ := ho
  obtain ⟨ka, kc, rfl, -, -⟩ := hk
  obtain ⟨sa, sc, rfl, -, -⟩ := hs
  have HS0 : Hid (Many W W 0 (fun _ => 0) (fun _ => B0) []) := Many.start0 _ _ _
  have HK25 : Hid (∀ w, Calls Try.prog 25 #[] w (Gives fun v w' => v = .bool true ∧ Keep (Old w) w w')) := fun w => known_any w
  clear hsi
  by_cases hok : sizesOk sizes
  · have hm17 : sizes.length ≤ 17 := hok.2.1
    have HNG : Hid (∀ (w : World) (m : Nat) (p : Nat → Nat) (Bs : Nat → By), Many W w m p Bs [] → Calls Try.prog 24 #[.slice sa sizes.length sc] w (Gives fun r w' => ∃ b, r = .tuple #[.pointer (some ⟨b, 0, none⟩), .int .u16 0] ∧ Many W w' (m + 1) (put p m b) (put Bs m (By.fresh sizes sizes.length)) [])) := fun w m p Bs h => h.new_ok HSZ.out hok
    have hfn : (By.fresh sizes sizes.length).n = sizes.length := rfl
    have hfd : (By.fresh sizes sizes.length).dark = false := rfl
    have HF : Hid ((By.fresh sizes sizes.length).Small 0 ∧ (By.fresh sizes sizes.length).NoneComing ∧ (By.fresh sizes sizes.length).Calm ∧ ((By.fresh sizes sizes.length).cr = 0 ∧ (By.fresh sizes sizes.length).cw = 0 ∧ (By.fresh sizes sizes.length).cf = 0)) := ⟨fresh_small _ _, fresh_coming _ _, ⟨rfl, rfl⟩, rfl, rfl, rfl⟩
    generalize By.fresh sizes sizes.length = F at *
    have HTR : Hid (∀ w a b, Many W w 2 (pt a b) (two F F) [] → Calls Try.prog 30 #[.pointer (some ⟨b, 0, none⟩), .int .i64 n] w (Gives fun v w' => v = .int .u16 (if n < 0 then 1 else 0) ∧ Many W w' 2 (pt a b) (two F (F.tripped n)) [])) := fun w a b h =>
      Gives.imp (Many.trip h 1 (by omega) n hn.2) fun v w' hg => ⟨by have := hg.1; rw [show (two F F 1).tripc n = (if n < 0 then 1 else 0) by show F.tripc n = _; unfold By.tripc; rw [hfd]; rfl] at this; exact this, hg.2.1.two1⟩
    by_cases hneg : n < 0
    · rw [if_pos hneg] at HTR
      have hft : F.tripped n = F := by unfold By.tripped; rw [if_pos hneg]
      rw [hft] at HTR
      have HDK : Hid (∀ w a b, Many W w 2 (pt a b) (two F F) [] → Calls Try.prog 31 #[.pointer (some ⟨b, 0, none⟩)] w fun e w' => e = .returned (.bool false) ∧ w = w') := fun w a b h => by
        have := Many.dark h 1 (by omega)
        rw [show (two F F 1).dark = false from hfd] at this
        exact this
      clear HF hfn hfd hft
      go_enter Try.func5, Try.ntmps5
      go_wp2_with (first | (go_at_call 23; refine (HM2.out _ HK1.out).mono ?_; rintro e w2 ⟨v, rfl, c2, rfl, hk, hc⟩; have HC2 := Lib.hid hc; have H2 := Lib.hid (((HS0.out.quiet HK1.out).quiet (Keep.alloc NoF _ _)).quiet hk); clear hk hc) | (go_at_call 23; go_must (refine HM.out.mono ?_); rintro e w1 ⟨v, rfl, c, rfl, hk, hc⟩; have HC := Lib.hid hc; have HK1 := Lib.hid hk; clear hk hc) | (go_at_call 24; refine (HNG.out _ _ _ _ H3.out).mono ?_; rintro e w4 ⟨v, rfl, b, rfl, hv⟩; have H4 := Lib.hid hv; clear hv) | (go_at_call 24; go_must (refine (HNG.out _ _ _ _ H2.out).mono ?_); rintro e w3 ⟨v, rfl, a, rfl, hv⟩; have H3 := Lib.hid hv; clear hv) | (go_at_call 25; go_must (refine (HK25.out _).mono ?_); rintro e w5 ⟨v, rfl, rfl, hv⟩; have H5 := Lib.hid (H4.out.past hv).two01; clear hv) | (go_at_call 30; go_must (refine (HTR.out _ _ _ H5.out).mono ?_); rintro e w6 ⟨v, rfl, rfl, hv⟩; have H6 := Lib.hid hv; clear hv) | (go_at_call 31; go_must (refine (HDK.out _ _ _ H6.out).mono ?_); rintro e w7 ⟨rfl, rfl⟩))
      · go_ret
        exact ⟨_, rfl, rfl, (HS0.out.quiet HK1.out).old⟩
      · go_ret
        exact ⟨_, rfl, rfl, H2.out.old⟩
      · go_ret
        exact ⟨_, rfl, rfl, H6.out.old⟩
    · rw [if_neg hneg] at HTR
      have HT0 : Hid (TripsAt W 0 0 n sizes.length 0 false W → True) := fun _ => trivial
      have HST : Hid (Tripping n sizes.length false F (F.tripped n) ∧ (F.tripped n).Small 0 ∧ (F.tripped n).NoneComing) := by
        obtain ⟨f1, f2, f3, f4, f5, f6⟩ := HF.out
        have e : F.tripped n = { F with trip := n } := by unfold By.tripped; rw [if_neg hneg, hfd]; rfl
        have ht : F.total = 0 := by unfold By.total; omega
        refine ⟨?_, Small.tripped f1 n, by rw [e]; exact f2⟩
        rw [e]
        refine ⟨hfn, hfn, f3, rfl, ⟨rfl, rfl, rfl⟩, fun _ => ⟨hfd, ?_, ?_⟩, (fun h => by cases h)⟩
        · show n = n - F.total
          omega
        · show F.total ≤ n
          omega
      have HF1 := Lib.hid (And.intro HF.out.1 HF.out.2.1)
      clear HF hfd HT0
      go_enter Try.func5, Try.ntmps5
      go_wp2_with (first | (go_at_call 23; refine (HM2.out _ HK1.out).mono ?_; rintro e w2 ⟨v, rfl, c2, rfl, hk, hc⟩; have HC2 := Lib.hid hc; have H2 := Lib.hid (((HS0.out.quiet HK1.out).quiet (Keep.alloc NoF _ _)).quiet hk); clear hk hc) | (go_at_call 23; go_must (refine HM.out.mono ?_); rintro e w1 ⟨v, rfl, c, rfl, hk, hc⟩; have HC := Lib.hid hc; have HK1 := Lib.hid hk; clear hk hc) | (go_at_call 24; refine (HNG.out _ _ _ _ H3.out).mono ?_; rintro e w4 ⟨v, rfl, b, rfl, hv⟩; have H4 := Lib.hid hv; clear hv) | (go_at_call 24; go_must (refine (HNG.out _ _ _ _ H2.out).mono ?_); rintro e w3 ⟨v, rfl, a, rfl, hv⟩; have H3 := Lib.hid hv; clear hv) | (go_at_call 25; go_must (refine (HK25.out _).mono ?_); rintro e w5 ⟨v, rfl, rfl, hv⟩; have H5 := Lib.hid (H4.out.past hv).two01; clear hv) | (go_at_call 30; go_must (refine (HTR.out _ _ _ H5.out).mono ?_); rintro e w6 ⟨v, rfl, rfl, hv⟩; have H6 := Lib.hid hv; clear hv))
      · go_ret
        exact ⟨_, rfl, rfl, (HS0.out.quiet HK1.out).old⟩
      · go_ret
        exact ⟨_, rfl, rfl, H2.out.old⟩
      · have hlen : ops.length ≤ 100000 := by have := HC.out (by simpa using ‹¬ c = true›); omega
        clear HC HC2 HM HM2 HS0 HK25 HNG HTR H2 H3 H4 H5 HK1
        go_loopw [14, 15] (fun m t wr => ∃ (i : Nat) (dk : Bool), i ≤ ops.length ∧ t = .int .i64 i ∧ m = .bool dk ∧ TripsAt W a b n sizes.length i dk wr) (fun _ t _ => ops.length - (intOf t).toNat)
        case atStart => exact ⟨0, false, Nat.zero_le _, rfl, rfl, _, _, H6.out, HST.out.1, HF1.out.1, HST.out.2.1, HF1.out.2, HST.out.2.2⟩
        case round =>
          obtain ⟨i, dk, hi, rfl, rfl, A, B, hm, ht, hA, hB, hcA, hcB⟩ := hrel
          by_cases hlt : i < ops.length
          · obtain ⟨d, hd⟩ : ∃ d, ops[i]? = some d := ⟨_, List.getElem?_eq_getElem hlt⟩
            obtain ⟨bb, o, cap, hv, hda, hdc⟩ := HO.out.get hd
            have hdc := hdc wr hm.old
            simp only [Value.slice.injEq, true_and] at hv
            obtain ⟨rfl, rfl⟩ := hv
            have hA6 := hA.mono (m' := 1000000) (by omega)
            have hB6 := hB.mono (m' := 1000000) (by omega)
            have HNX : Hid (∀ w', Keep NoF wr w' → TripsAt W a b n sizes.length (i + 1) dk w') := fun w' hk => ⟨A, B, hm.quiet hk, ht, by simpa using hA.mono (m' := i + 1) (by omega), by simpa using hB.mono (m' := i + 1) (by omega), hcA, hcB⟩
            obtain ⟨kind, slot, nn, bv, bl, kv, kl2⟩ := d
            obtain ⟨ba, bcap, hbv, -, -, -⟩ := hda.b
            obtain ⟨ka2, kcap, hkv, -, -, -⟩ := hda.k
            simp only at hbv hkv
            subst hbv
            subst hkv
            have HW1 : Hid (Wt W a b A B wr.heap.size ⟨kind, slot, nn, .slice ba bl.length bcap, bl, .slice ka2 kl2.length kcap, kl2⟩ [] (wr.alloc (.cells #[.int .i64 kind, .int .i64 slot, .int .i64 nn, .slice ba bl.length bcap, .slice ka2 kl2.length kcap] 69))) := wt_start hm ⟨kind, slot, nn, .slice ba bl.length bcap, bl, .slice ka2 kl2.length kcap, kl2⟩
            obtain ⟨⟨x0, x1, x2⟩, x3, x4⟩ := op_cells hdc
            obtain ⟨hk1, hk2⟩ := hda.kind
            obtain ⟨hs1, hs2⟩ := hda.slot
            have HNX2 := Lib.hid (HNX.out _ (Keep.alloc NoF wr (.cells #[.int .i64 kind, .int .i64 slot, .int .i64 nn, .slice ba bl.length bcap, .slice ka2 kl2.length kcap] 69)))
            clear hdc hd HNX
            by_cases hbad : kind < 1 ∨ 3 < kind ∨ slot < 0 ∨ (sizes.length : Int) ≤ slot
            · clear hm ht hA hB hcA hcB hda HW1 hA6 hB6 HO HKP HSZ HST HF1 H6
              rcases hbad with hb1 | hb1
              · go_wp2
                exact ⟨⟨i + 1, dk, by omega, by go_num, rfl, HNX2.out⟩, by simp [intOf]; omega⟩
              · by_cases hb0 : kind < 1
                · go_wp2
                  exact ⟨⟨i + 1, dk, by omega, by go_num, rfl, HNX2.out⟩, by simp [intOf]; omega⟩
                · rcases hb1 with hb1 | hb1
                  · go_wp2
                    exact ⟨⟨i + 1, dk, by omega, by go_num, rfl, HNX2.out⟩, by simp [intOf]; omega⟩
                  · by_cases hb3 : 3 < kind
                    · go_wp2
                      exact ⟨⟨i + 1, dk, by omega, by go_num, rfl, HNX2.out⟩, by simp [intOf]; omega⟩
                    · rcases hb1 with hb1 | hb1
                      · go_wp2
                        exact ⟨⟨i + 1, dk, by omega, by go_num, rfl, HNX2.out⟩, by simp [intOf]; omega⟩
                      · have hb4 : ¬ slot < 0 := by omega
                        go_wp2
                        exact ⟨⟨i + 1, dk, by omega, by go_num, rfl, HNX2.out⟩, by simp [intOf]; omega⟩
            · obtain ⟨g1, g2, g3, g4⟩ : 1 ≤ kind ∧ kind ≤ 3 ∧ 0 ≤ slot ∧ slot < sizes.length := by omega
              clear hbad HNX2
              by_cases hdk : dk = true ∨ B.total = n
              · obtain ⟨p1, p2, p3, p4⟩ := tripping_dark ht ⟨kind, slot, nn, .slice ba bl.length bcap, bl, .slice ka2 kl2.length kcap, kl2⟩ ⟨g3, g4⟩ hdk
                have HE : Hid (∀ w' L, Many W w' 2 (pt a b) (two A (B.plain ⟨kind, slot, nn, .slice ba bl.length bcap, bl, .slice ka2 kl2.length kcap, kl2⟩)) L → TripsAt W a b n sizes.length (i + 1) true w') := fun w' L h => ⟨A, _, h.less (fun q hq => by cases hq), p1, by simpa using hA.mono (m' := i + 1) (by omega), Small.plain hB _, hcA, plain_coming hcB _⟩
                have HTT : Hid (∀ L w, Wt W a b A B wr.heap.size ⟨kind, slot, nn, .slice ba bl.length bcap, bl, .slice ka2 kl2.length kcap, kl2⟩ L w → Calls Try.prog 32 #[.pointer (some ⟨b, 0, none⟩)] w (Gives fun v w' => v = .int .i64 B.total ∧ Wt W a b A B wr.heap.size ⟨kind, slot, nn, .slice ba bl.length bcap, bl, .slice ka2 kl2.length kcap, kl2⟩ L w')) := fun L w h => Wt.total h hB6
                generalize eB : B.plain _ = B' at *
                obtain ⟨hpb, -⟩ := trip_facts (a := a) (b := b) (g := wr.heap.size) hA6 hB6 hda rfl eB rfl p2 rfl p3
                have HPB := Lib.hid hpb
                have HD : Hid (∀ L w, Wt W a b A B' wr.heap.size ⟨kind, slot, nn, .slice ba bl.length bcap, bl, .slice ka2 kl2.length kcap, kl2⟩ L w → Calls Try.prog 31 #[.pointer (some ⟨b, 0, none⟩)] w fun e w' => e = .returned (.bool true) ∧ w = w') := fun L w h => by have := Wt.dark h; rw [p4] at this; exact this
                clear hm ht hA hB hcA hcB hda hA6 hB6 HO HKP HSZ HST HF1 H6 p1 p2 p3 p4 eB hpb
                cases dk with
                | true =>
                  clear hdk
                  go_wp2_with (first | (go_at_call 28; go_must (refine (HPB.out _ _ HW1.out).mono ?_); rintro e wb ⟨v, rfl, y, yc, rfl, hv⟩; have HWB := Lib.hid hv; clear hv) | (go_at_call 31; go_must (refine (HD.out _ _ HWB.out).mono ?_); rintro e wd ⟨rfl, rfl⟩))
                  exact ⟨⟨i + 1, true, by omega, by go_num, rfl, HE.out _ _ HWB.out.1⟩, by simp [intOf]; omega⟩
                | false =>
                  have hdk' : B.total = n := hdk.resolve_left (by decide)
                  rw [hdk'] at HTT
                  clear hdk
                  go_wp2_with (first | (go_at_call 32; go_must (refine (HTT.out _ _ HW1.out).mono ?_); rintro e wt ⟨v, rfl, rfl, hv⟩; have HW2 := Lib.hid hv; obtain ⟨⟨z0, z1, z2⟩, z3, z4, z5⟩ := Wt.cellsY hv; clear hv) | (go_at_call 28; go_must (refine (HPB.out _ _ HW2.out).mono ?_); rintro e wb ⟨v, rfl, y, yc, rfl, hv⟩; have HWB := Lib.hid hv; clear hv) | (go_at_call 31; go_must (refine (HD.out _ _ HWB.out).mono ?_); rintro e wd ⟨rfl, rfl⟩))
                  exact ⟨⟨i + 1, true, by omega, by go_num, rfl, HE.out _ _ HWB.out.1⟩, by simp [intOf]; omega⟩
              · obtain ⟨rfl, hnt⟩ : dk = false ∧ B.total ≠ n := by
                  cases dk with
                  | true => exact absurd (.inl rfl) hdk
                  | false => exact ⟨rfl, fun h => hdk (.inr h)⟩
                obtain ⟨p1, p2, p3⟩ := tripping_lit ht ⟨kind, slot, nn, .slice ba bl.length bcap, bl, .slice ka2 kl2.length kcap, kl2⟩ ⟨g3, g4⟩ hnt
                have hntb : (B.total == n) = false := by simpa using hnt
                have HE : Hid (∀ w' L, Many W w' 2 (pt a b) (two (A.plain ⟨kind, slot, nn, .slice ba bl.length bcap, bl, .slice ka2 kl2.length kcap, kl2⟩) (B.plain ⟨kind, slot, nn, .slice ba bl.length bcap, bl, .slice ka2 kl2.length kcap, kl2⟩)) L → TripsAt W a b n sizes.length (i + 1) false w') := fun w' L h => ⟨_, _, h.less (fun q hq => by cases hq), p1, Small.plain hA _, Small.plain hB _, plain_coming hcA _, plain_coming hcB _⟩
                have HTT : Hid (∀ L w, Wt W a b A B wr.heap.size ⟨kind, slot, nn, .slice ba bl.length bcap, bl, .slice ka2 kl2.length kcap, kl2⟩ L w → Calls Try.prog 32 #[.pointer (some ⟨b, 0, none⟩)] w (Gives fun v w' => v = .int .i64 B.total ∧ Wt W a b A B wr.heap.size ⟨kind, slot, nn, .slice ba bl.length bcap, bl, .slice ka2 kl2.length kcap, kl2⟩ L w')) := fun L w h => Wt.total h hB6
                generalize eA : A.plain _ = A' at *
                generalize eB : B.plain _ = B' at *
                generalize fB : B.plainc _ = cb at *
                generalize gB : B.plainl _ = lb at *
                obtain ⟨hpb, hpa⟩ := trip_facts (a := a) (b := b) (g := wr.heap.size) hA6 hB6 hda eA eB p2 fB p3 gB
                have HPA := Lib.hid hpa
                have HPB := Lib.hid hpb
                generalize B.total = bt at *
                clear hm ht hA hB hcA hcB hda hA6 hB6 HO HKP HSZ HST HF1 H6 p1 p2 p3 eA eB fB gB hpa hpb hdk hnt
                go_wp2_with (first | (go_at_call 32; go_must (refine (HTT.out _ _ HW1.out).mono ?_); rintro e wt ⟨v, rfl, rfl, hv⟩; have HW2 := Lib.hid hv; obtain ⟨⟨z0, z1, z2⟩, z3, z4, z5⟩ := Wt.cellsY hv; clear hv) | (go_at_call 28; refine (HPA.out _ _ HWB.out).mono ?_; rintro e wa ⟨v, rfl, x, xc, rfl, hv⟩; have HWA := Lib.hid hv; clear hv) | (go_at_call 28; go_must (refine (HPB.out _ _ HW2.out).mono ?_); rintro e wb ⟨v, rfl, y, yc, rfl, hv⟩; have HWB := Lib.hid hv; obtain ⟨⟨y0, y1, y2⟩, y3, y4, y5⟩ := Wt.cellsY hv; clear hv) | (go_at_call 19; go_must (refine (Wt.same HWA.out (List.mem_cons_of_mem _ List.mem_cons_self) List.mem_cons_self).mono ?_); rintro e wc ⟨v, rfl, hb, hv⟩; simp only [decide_true] at hb; subst hb; have HWC := Lib.hid hv; clear hv))
                exact ⟨⟨i + 1, false, by omega, by go_num, rfl, HE.out _ _ HWC.out.1⟩, by simp [intOf]; omega⟩
          · obtain rfl : i = ops.length := by omega
            have hA6 := hA.mono (m' := 1000000) (by omega)
            have hB6 := hB.mono (m' := 1000000) (by omega)
            have HM0 := Lib.hid hm
            have hBd : B.dark = dk := by
              cases dk with
              | true => exact (ht.out rfl).1
              | false => exact (ht.lit rfl).1
            have HDK : Hid (∀ w, Many W w 2 (pt a b) (two A B) [] → Calls Try.prog 31 #[.pointer (some ⟨b, 0, none⟩)] w fun e w' => e = .returned (.bool dk) ∧ w = w') := fun w h => by have := Many.dark h 1 (by omega); rw [show (two A B 1).dark = dk from hBd] at this; exact this
            have HCA : Hid (∀ w, Many W w 2 (pt a b) (two A B) [] → Calls Try.prog 29 #[.pointer (some ⟨a, 0, none⟩)] w (Gives fun v w' => v = .agg #[.int .i64 B.cr, .int .i64 B.cw, .int .i64 B.cf] ∧ Many W w' 2 (pt a b) (two A B) [])) := fun w h => by have := (countsAB h).1; rw [ht.cnt.1, ht.cnt.2.1, ht.cnt.2.2] at this; exact this
            have HCB : Hid (∀ w, Many W w 2 (pt a b) (two A B) [] → Calls Try.prog 29 #[.pointer (some ⟨b, 0, none⟩)] w (Gives fun v w' => v = .agg #[.int .i64 B.cr, .int .i64 B.cw, .int .i64 B.cf] ∧ Many W w' 2 (pt a b) (two A B) [])) := fun w h => (countsAB h).2
            have HT3 : Hid (dk = true → ∀ w, Many W w 2 (pt a b) (two A B) [] → Calls Try.prog 30 #[.pointer (some ⟨b, 0, none⟩), .int .i64 3] w (Gives fun v w' => v = .int .u16 50 ∧ Many W w' 2 (pt a b) (two A B) [])) := fun hd w h => by
              subst hd
              refine Gives.imp (Many.trip h 1 (by omega) 3 (by omega)) fun v w' hg => ⟨?_, ?_⟩
              · have := hg.1
                rw [show (two A B 1).tripc 3 = 50 by show B.tripc 3 = 50; unfold By.tripc; rw [hBd]; rfl] at this
                exact this
              · have := hg.2.1.two1
                rw [show (two A B 1).tripped 3 = B by show B.tripped 3 = B; unfold By.tripped; rw [hBd]; rfl] at this
                exact this
            have HKA : Hid (∀ w, Many W w 2 (pt a b) (two A B) [] → Calls Try.prog 33 #[.pointer (some ⟨a, 0, none⟩), .slice ka kl.length kc] w (Gives fun v w' => v = .tuple #[] ∧ Many W w' 2 (pt a b) (two (A.cut kl) B) [])) := fun w h => cutA h hA6 hcA HKP.out
            have HKB : Hid (∀ w, Many W w 2 (pt a b) (two (A.cut kl) B) [] → Calls Try.prog 33 #[.pointer (some ⟨b, 0, none⟩), .slice ka kl.length kc] w (Gives fun v w' => v = .tuple #[] ∧ Many W w' 2 (pt a b) (two (A.cut kl) (B.cut kl)) [])) := fun w h => cutB h hB6 hcB HKP.out
            have HIA : Hid (∀ w L k, Many W w 2 (pt a b) (two (A.cut kl) (B.cut kl)) L → Calls Try.prog 34 #[.pointer (some ⟨a, 0, none⟩), .int .i64 k] w (Gives (ImgPost W a b (A.cut kl) (B.cut kl) L ((B.cut kl).tcode k) ((B.cut kl).image k)))) := fun w L k h => by
              have := imageA h k
              obtain ⟨e1, e2⟩ := cut_image (ht.nA.trans ht.nB.symm) ht.dev kl k
              rw [e1, e2] at this
              exact this
            have HIB : Hid (∀ w L k, Many W w 2 (pt a b) (two (A.cut kl) (B.cut kl)) L → Calls Try.prog 34 #[.pointer (some ⟨b, 0, none⟩), .int .i64 k] w (Gives (ImgPost W a b (A.cut kl) (B.cut kl) L ((B.cut kl).tcode k) ((B.cut kl).image k)))) := fun w L k h => imageB h k
            have HDE : Hid (∀ w, Many W w 2 (pt a b) (two (A.cut kl) (B.cut kl)) [] → Calls Try.prog 31 #[.pointer (some ⟨b, 0, none⟩)] w fun e w' => e = .returned (.bool false) ∧ w = w') := fun w h => Many.dark h 1 (by omega)
            clear hm ht hA hB hcA hcB hA6 hB6 HO HKP HSZ HST HF1 H6 hBd hlt
            generalize A.cut kl = A1 at *
            generalize B.cut kl = B1 at *
            generalize B.cr = cr at *
            generalize B.cw = cw at *
            generalize B.cf = cf at *
            cases dk
            all_goals
              go_wp2_with (first | (go_at_call 31; go_must (refine (HDK.out _ HM0.out).mono ?_); rintro e wd ⟨rfl, rfl⟩) | (go_at_call 29; refine (HCB.out _ HM1.out).mono ?_; rintro e w8 ⟨v, rfl, rfl, hv⟩; have HM2 := Lib.hid hv; clear hv) | (go_at_call 29; go_must (refine (HCA.out _ HM0.out).mono ?_); rintro e w7 ⟨v, rfl, rfl, hv⟩; have HM1 := Lib.hid hv; clear hv) | (go_at_call 30; go_must (refine (HT3.out (by first | trivial | rfl) _ HM2.out).mono ?_); rintro e w9 ⟨v, rfl, rfl, hv⟩; have HM3 := Lib.hid hv; clear hv) | (go_at_call 33; refine (HKB.out _ HM4.out).mono ?_; rintro e w11 ⟨v, rfl, rfl, hv⟩; have HM5 := Lib.hid hv; clear hv) | (go_at_call 33; refine (HKA.out _ HM3.out).mono ?_; rintro e w10 ⟨v, rfl, rfl, hv⟩; have HM4 := Lib.hid hv; clear hv) | (go_at_call 33; go_must (refine (HKA.out _ HM2.out).mono ?_); rintro e w10 ⟨v, rfl, rfl, hv⟩; have HM4 := Lib.hid hv; clear hv))
              go_loopw [21] (fun t wr => ∃ (j : Nat), j ≤ sizes.length ∧ t = .int .i64 j ∧ Many W wr 2 (pt a b) (two A1 B1) []) (fun t _ => sizes.length - (intOf t).toNat)
              case atStart => exact ⟨0, Nat.zero_le _, rfl, HM5.out⟩
              case round =>
                obtain ⟨j, hj, rfl, hmj⟩ := hrel
                have HMJ := Lib.hid hmj
                clear hmj
                by_cases hlt : j < sizes.length
                · have HJA := Lib.hid (fun w L h => HIA.out w L j h)
                  have HJB := Lib.hid (fun w L h => HIB.out w L j h)
                  generalize B1.tcode j = cj at *
                  generalize B1.image j = lj at *
                  go_wp2_with (first | (go_at_call 34; refine (HJB.out _ _ HN1.out).mono ?_; rintro e wy ⟨v, rfl, y, yc, rfl, hv⟩; have HN2 := Lib.hid hv; clear hv) | (go_at_call 34; go_must (refine (HJA.out _ _ HMJ.out).mono ?_); rintro e wx ⟨v, rfl, x, xc, rfl, hv⟩; have HN1 := Lib.hid hv; clear hv) | (go_at_call 19; go_must (refine (Many.same HN2.out (List.mem_cons_of_mem _ List.mem_cons_self) List.mem_cons_self).mono ?_); rintro e wc ⟨v, rfl, hb, hv, -⟩; simp only [decide_true] at hb; subst hb; have HN3 := Lib.hid hv; clear hv))
                  exact ⟨⟨j + 1, by omega, by go_num, HN3.out.less (fun q hq => by cases hq)⟩, by simp [intOf]; omega⟩
                · go_wp2_with (go_at_call 31; go_must (refine (HDE.out _ HMJ.out).mono ?_); rintro e wd ⟨rfl, rfl⟩)
                  go_ret
                  exact ⟨_, rfl, rfl, HMJ.out.old⟩
  · have hbc : (badCode sizes != 0) = true := by unfold badCode; split <;> rfl
    have HNB : Hid (∀ w, Many W w 0 (fun _ => 0) (fun _ => B0) [] → Calls Try.prog 24 #[.slice sa sizes.length sc] w (Gives fun r w' => r = .tuple #[.pointer none, .int .u16 (badCode sizes)] ∧ Many W w' 0 (fun _ => 0) (fun _ => B0) [])) := fun w h => h.new_bad HSZ.out hok
    generalize badCode sizes = bc at *
    go_enter Try.func5, Try.ntmps5
    go_wp2_with (first | (go_at_call 23; refine (HM2.out _ HK1.out).mono ?_; rintro e w2 ⟨v, rfl, c2, rfl, hk, hc⟩; have HC2 := Lib.hid hc; have H2 := Lib.hid (((HS0.out.quiet HK1.out).quiet (Keep.alloc NoF _ _)).quiet hk); clear hk hc) | (go_at_call 23; go_must (refine HM.out.mono ?_); rintro e w1 ⟨v, rfl, c, rfl, hk, hc⟩; have HC := Lib.hid hc; have HK1 := Lib.hid hk; clear hk hc) | (go_at_call 24; refine (HNB.out _ H3.out).mono ?_; rintro e w4 ⟨v, rfl, rfl, hv⟩; have H4 := Lib.hid hv; clear hv) | (go_at_call 24; go_must (refine (HNB.out _ H2.out).mono ?_); rintro e w3 ⟨v, rfl, rfl, hv⟩; have H3 := Lib.hid hv; clear hv) | (go_at_call 25; go_must (refine (HK25.out _).mono ?_); rintro e w5 ⟨v, rfl, rfl, hv⟩; have H5 := Lib.hid (H4.out.past hv); clear hv))
    · go_ret
      exact ⟨_, rfl, rfl, (HS0.out.quiet HK1.out).old⟩
    · go_ret
      exact ⟨_, rfl, rfl, H2.out.old⟩
    · go_ret
      exact ⟨_, rfl, rfl, H5.out.old⟩
end Go.Proofs.Ytghnbbpoaeheaaa
