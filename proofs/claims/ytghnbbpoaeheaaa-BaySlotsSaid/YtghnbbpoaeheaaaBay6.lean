/- The bay's functions, walked: Trip, Wear, Fail, New. -/
import Derived.Test.YtghnbbpoaeheaaaBay5
namespace Go.Proofs.Ytghnbbpoaeheaaa
open Go.RowKit

def By.tripc (B : By) (n : Int) : Int := if n < 0 then 1 else if B.dark then 50 else 0
def By.tripped (B : By) (n : Int) : By := if n < 0 then B else if B.dark then B else { B with trip := n }
def By.wearc (B : By) (k n : Int) : Int := if n < 0 then 1 else B.tcode k
def By.wear (B : By) (k n : Int) : By := if n < 0 then B else match B.in k with | none => B | some d => B.setDev (k.toNat * 3) (some { d with worn := true, left := n })
def By.failed (B : By) (k : Int) : By := match B.in k with | none => B | some d => B.setDev (k.toNat * 3) (some { d with disk := d.disk.fail })

section
variable {w : World} {b : Nat} {B : By} {F : Nat → Prop}
theorem trip_any (h : BayAt w b B F) (n : Int) (hn : n ≤ 9223372036854775807) : Calls Try.prog 30 #[.pointer (some ⟨b, 0, none⟩), .int .i64 n] w (Gives (CodePost (B.tripc n) (BayPost w b (B.tripped n) F))) := by
  have hsame := Lib.hid (BayPost.same h)
  obtain ⟨bs, ptr, Fs, h⟩ := h
  obtain ⟨c0, c1, c2, _⟩ := h.head
  have f2 := free_at h.hb 2
  unfold By.tripc By.tripped
  by_cases h0 : n < 0
  · rw [if_pos h0, if_pos h0]
    clear h hn
    go_enter Try.func30, Try.ntmps30
    go_wp2
    go_ret
    exact ⟨_, rfl, rfl, hsame.out⟩
  · rw [if_neg h0, if_neg h0]
    cases hd : B.dark with
    | true =>
      rw [hd] at c1
      clear h hn hd
      go_enter Try.func30, Try.ntmps30
      go_wp2
      go_ret
      exact ⟨_, rfl, rfl, hsame.out⟩
    | false =>
      have hkA : Keep (· = b) w (w.setCell ⟨b, 2, none⟩ (.int .i64 n)) := Keep.setCell (F := (· = b)) w ⟨b, 2, none⟩ (.int .i64 n) rfl
      have hbA := heap_setCell_same w b 2 _ _ (.int .i64 n) h.hb
      have hl : BayLies _ b { B with trip := n } F bs ptr Fs := h.rehead (B' := { B with trip := n }) hkA rfl rfl ⟨by show -1 ≤ n; omega, hn⟩ (by simpa using hbA)
      have HP : Hid (BayPost w b { B with trip := n } F (w.setCell ⟨b, 2, none⟩ (.int .i64 n))) := ⟨F, ⟨bs, ptr, Fs, hl⟩, hkA.mono fun x _ e => (h.hF x).2 (.inl e), fun _ hx => .inl hx⟩
      have he : (if false = true then B else { B with trip := n }) = { B with trip := n } := rfl
      have HP2 : Hid (BayPost w b (if false = true then B else { n := B.n, dev := B.dev, dark := false, trip := n, cr := B.cr, cw := B.cw, cf := B.cf }) F (w.setCell ⟨b, 2, none⟩ (.int .i64 n))) := by
        have := HP.out
        rw [show ({ B with trip := n } : By) = { n := B.n, dev := B.dev, dark := false, trip := n, cr := B.cr, cw := B.cw, cf := B.cf } by rw [← hd]] at this
        exact this
      rw [hd] at c1
      clear h hn hkA hbA hl he
      go_enter Try.func30, Try.ntmps30
      go_wp2
      go_ret
      exact ⟨_, rfl, rfl, HP2.out⟩

/-- A device's place is given another device: the bay behind it. -/
theorem BayLies.post {bs : Nat} {ptr : Nat → Value} {Fs : Nat → Nat → Prop} (h : BayLies w b B F bs ptr Fs) {i : Nat} (hi : i < B.n * 3) {d' : Dev} {w' : World} (hp : DevPost w (ptr i) d' (Fs i) NoF w') (hl : 0 ≤ d'.left ∧ d'.left ≤ 9223372036854775807) :
    BayPost w b (B.setDev i (some d')) F w' := by
  obtain ⟨F', h1, h2, h3⟩ := hp
  have hk : Keep (Fs i) w w' := h2.mono fun x _ hx => hx.resolve_right (fun h => h)
  exact ⟨_, ⟨bs, ptr, _, h.redev hk h1 h3 hi (fun d e => (Option.some.inj e) ▸ hl)⟩, hk.mono fun x _ hx => (h.hF x).2 (.inr (.inr ⟨i, hx⟩)), h.redev_F (w' := w') h3⟩

set_option maxHeartbeats 400000 in
theorem wear_any (h : BayAt w b B F) (k n : Int) (hn : n ≤ 9223372036854775807) : Calls Try.prog 26 #[.pointer (some ⟨b, 0, none⟩), .int .i64 k, .int .i64 n] w (Gives (CodePost (B.wearc k n) (BayPost w b (B.wear k n) F))) := by
  have hsame := Lib.hid (BayPost.same h)
  obtain ⟨bs, ptr, Fs, h⟩ := h
  unfold By.wearc By.wear
  by_cases h0 : n < 0
  · rw [if_pos h0, if_pos h0]
    clear h hn
    go_enter Try.func26, Try.ntmps26
    go_wp2
    go_ret
    exact ⟨_, rfl, rfl, hsame.out⟩
  · rw [if_neg h0, if_neg h0]
    have HT := Lib.hid (there_any h k)
    rcases h.in_cases k with ⟨h1, h2, h3⟩ | ⟨d, h1, hk, hdv, h3, h2, hi⟩
    · rw [h1]
      rw [h2] at HT
      have hne : (B.tcode k == 0) = false := by simpa using h3
      generalize B.tcode k = c at *
      clear h h1 h2 h3 hn
      go_enter Try.func26, Try.ntmps26
      go_wp2_with (go_at_call 80; refine HT.out.mono ?_; rintro e w' ⟨rfl, rfl⟩)
      go_ret
      exact ⟨_, rfl, rfl, hsame.out⟩
    · rw [h1, h3]
      rw [h2, h3] at HT
      have hd := h.dev (k.toNat * 3)
      rw [hdv] at hd
      obtain ⟨bv, bd, Fd, hp, hh, hdk, hnv, hF⟩ := id hd
      rw [hp] at HT
      have c1 := cell_at hh 1 rfl
      have c2 := cell_at hh 2 rfl
      have f1 := free_at hh 1
      have f2 := free_at hh 2
      have hk2 : Keep (· = bv) w ((w.setCell ⟨bv, 1, none⟩ (.bool true)).setCell ⟨bv, 2, none⟩ (.int .i64 n)) := (Keep.setCell (F := (· = bv)) w ⟨bv, 1, none⟩ (.bool true) rfl).trans' (Keep.setCell (F := (· = bv)) _ ⟨bv, 2, none⟩ (.int .i64 n) rfl)
      have hb2 := heap_setCell_same _ bv 2 _ _ (.int .i64 n) (heap_setCell_same w bv 1 _ _ (.bool true) hh)
      have hpost : DevPost w (ptr (k.toNat * 3)) { d with worn := true, left := n } (Fs (k.toNat * 3)) NoF ((w.setCell ⟨bv, 1, none⟩ (.bool true)).setCell ⟨bv, 2, none⟩ (.int .i64 n)) := by
        refine ⟨Fs (k.toNat * 3), ⟨bv, bd, Fd, hp, by simpa using hb2, hdk.keep hk2 (fun x hx e => hnv (e ▸ hx)), hnv, hF⟩, hk2.mono fun x _ e => .inl ((hF x).2 (.inl e)), fun _ hx => .inl hx⟩
      have HP := Lib.hid (h.post hi hpost ⟨by show 0 ≤ n; omega, hn⟩)
      clear h h1 h2 h3 hk hdv hp hh hdk hnv hF hn hd hk2 hb2 hpost hi hsame
      go_enter Try.func26, Try.ntmps26
      go_wp2_with (go_at_call 80; refine HT.out.mono ?_; rintro e w' ⟨rfl, rfl⟩)
      go_ret
      exact ⟨_, rfl, rfl, HP.out⟩

set_option maxHeartbeats 400000 in
theorem bfail_any (h : BayAt w b B F) (k : Int) (hcl : ∀ j d, B.dev j = some d → d.disk.cache.length ≤ 1000000) : Calls Try.prog 43 #[.pointer (some ⟨b, 0, none⟩), .int .i64 k] w (Gives (CodePost (B.tcode k) (BayPost w b (B.failed k) F))) := by
  have hsame := Lib.hid (BayPost.same h)
  obtain ⟨bs, ptr, Fs, h⟩ := h
  unfold By.failed
  have HT := Lib.hid (there_any h k)
  rcases h.in_cases k with ⟨h1, h2, h3⟩ | ⟨d, h1, hk, hdv, h3, h2, hi⟩
  · rw [h1]
    rw [h2] at HT
    have hne : (B.tcode k == 0) = false := by simpa using h3
    generalize B.tcode k = c at *
    clear h h1 h2 h3
    go_enter Try.func43, Try.ntmps43
    go_wp2_with (go_at_call 80; refine HT.out.mono ?_; rintro e w' ⟨rfl, rfl⟩)
    go_ret
    exact ⟨_, rfl, rfl, hsame.out⟩
  · rw [h1, h3]
    rw [h2, h3] at HT
    have hd := h.dev (k.toNat * 3)
    rw [hdv] at hd
    obtain ⟨bv, bd, Fd, hp, hh, hdk, hnv, hF⟩ := id hd
    rw [hp] at HT
    have c0 := cell_at hh 0 rfl
    have HF := Lib.hid (fail_any hdk (hcl _ d hdv))
    have HP : Hid (∀ w', DiskPost w bd d.disk.fail Fd w' → BayPost w b (B.setDev (k.toNat * 3) (some { d with disk := d.disk.fail })) F w') := fun w' hq => by
      have := DevPost.disk hh hnv hF hq NoF
      rw [← hp] at this
      exact h.post hi this (h.ok.left _ d hdv)
    clear h h1 h2 h3 hk hdv hp hh hdk hnv hF hd hi hsame hcl
    go_enter Try.func43, Try.ntmps43
    go_wp2_with (first | (go_at_call 80; refine HT.out.mono ?_; rintro e w' ⟨rfl, rfl⟩) | (go_at_call 63; refine HF.out.mono ?_; rintro e w' ⟨v, rfl, rfl, hv⟩; have HV := Lib.hid hv; clear hv))
    go_ret
    exact ⟨_, rfl, rfl, HP.out _ HV.out⟩
end
end Go.Proofs.Ytghnbbpoaeheaaa
