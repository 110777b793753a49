/- The bay's functions, walked: in, there, Has, Sectors, Dark, Counts, Trip, Image, Pending, Wear, Fail. -/
import Derived.Test.YtghnbbpoaeheaaaBy
namespace Go.Proofs.Ytghnbbpoaeheaaa
open Go.RowKit

def By.is (B : By) (k : Int) : Prop := 0 ≤ k ∧ k < B.n
instance (B : By) (k : Int) : Decidable (B.is k) := inferInstanceAs (Decidable (_ ∧ _))
/-- The disk in a slot. -/
def By.in (B : By) (k : Int) : Option Dev := if B.is k then B.dev (k.toNat * 3) else none
def By.tcode (B : By) (k : Int) : Int := if B.is k then (match B.dev (k.toNat * 3) with | none => 51 | some _ => 0) else 1
def inPtr (ptr : Nat → Value) (B : By) (k : Int) : Value := if B.is k then ptr (k.toNat * 3) else .pointer none

section
variable {w : World} {b : Nat} {B : By} {F : Nat → Prop} {bs : Nat} {ptr : Nat → Value} {Fs : Nat → Nat → Prop}
theorem in_any (h : BayLies w b B F bs ptr Fs) (k : Int) : Calls Try.prog 81 #[.pointer (some ⟨b, 0, none⟩), .int .i64 k] w fun e w' => e = .returned (inPtr ptr B k) ∧ w = w' := by
  have HA := Lib.hid (at_any h k)
  unfold inPtr
  by_cases hk : B.is k
  · obtain ⟨h1, h2⟩ := hk
    have e : slotPtr bs B.n k = .pointer (some ⟨bs, k.toNat * 3, none⟩) := by unfold slotPtr; rw [if_pos ⟨h1, h2⟩]
    rw [e] at HA
    rw [if_pos ⟨h1, h2⟩]
    have hc := h.slot (j := k.toNat * 3) (by omega)
    generalize ptr (k.toNat * 3) = v at hc
    generalize k.toNat * 3 = q at *
    clear h h1 h2 e
    go_enter Try.func81, Try.ntmps81
    go_wp2_with (go_at_call 92; refine HA.out.mono ?_; rintro e w' ⟨rfl, rfl⟩)
    go_ret
    exact ⟨rfl, rfl⟩
  · have e : slotPtr bs B.n k = .pointer none := by unfold slotPtr; exact if_neg hk
    rw [e] at HA
    rw [if_neg hk]
    clear h hk e
    go_enter Try.func81, Try.ntmps81
    go_wp2_with (go_at_call 92; refine HA.out.mono ?_; rintro e w' ⟨rfl, rfl⟩)
    go_ret
    exact ⟨rfl, rfl⟩

set_option maxHeartbeats 400000 in
theorem there_any (h : BayLies w b B F bs ptr Fs) (k : Int) : Calls Try.prog 80 #[.pointer (some ⟨b, 0, none⟩), .int .i64 k] w fun e w' => e = .returned (.tuple #[inPtr ptr B k, .int .u16 (B.tcode k)]) ∧ w = w' := by
  have HA := Lib.hid (at_any h k)
  have HI := Lib.hid (in_any h k)
  unfold By.tcode
  by_cases hk : B.is k
  · have e : slotPtr bs B.n k = .pointer (some ⟨bs, k.toNat * 3, none⟩) := by unfold slotPtr; exact if_pos hk
    have e2 : inPtr ptr B k = ptr (k.toNat * 3) := if_pos hk
    rw [e] at HA
    rw [e2] at HI ⊢
    rw [if_pos hk]
    have hd := h.dev (k.toNat * 3)
    cases hdv : B.dev (k.toNat * 3) with
    | none =>
      rw [hdv] at hd
      rw [hd.none_form] at HI ⊢
      generalize k.toNat * 3 = q at *
      clear h hk e e2 hd hdv
      go_enter Try.func80, Try.ntmps80
      go_wp2_with (first | (go_at_call 92; refine HA.out.mono ?_; rintro e w' ⟨rfl, rfl⟩) | (go_at_call 81; refine HI.out.mono ?_; rintro e w' ⟨rfl, rfl⟩))
      go_ret2
      exact ⟨rfl, rfl⟩
    | some d =>
      rw [hdv] at hd
      obtain ⟨bv, bd, hp, _⟩ := hd.some_form
      rw [hp] at HI ⊢
      generalize k.toNat * 3 = q at *
      clear h hk e e2 hd hdv hp
      go_enter Try.func80, Try.ntmps80
      go_wp2_with (first | (go_at_call 92; refine HA.out.mono ?_; rintro e w' ⟨rfl, rfl⟩) | (go_at_call 81; refine HI.out.mono ?_; rintro e w' ⟨rfl, rfl⟩))
      go_ret2
      exact ⟨rfl, rfl⟩
  · have e : slotPtr bs B.n k = .pointer none := by unfold slotPtr; exact if_neg hk
    have e2 : inPtr ptr B k = .pointer none := if_neg hk
    rw [e] at HA
    rw [e2] at HI ⊢
    rw [if_neg hk]
    clear h hk e e2
    go_enter Try.func80, Try.ntmps80
    go_wp2_with (first | (go_at_call 92; refine HA.out.mono ?_; rintro e w' ⟨rfl, rfl⟩) | (go_at_call 81; refine HI.out.mono ?_; rintro e w' ⟨rfl, rfl⟩))
    go_ret2
    exact ⟨rfl, rfl⟩
end

/-- Of the disk in a slot: the pointer to it, and its own blocks. -/
theorem BayLies.in_cases {w : World} {b : Nat} {B : By} {F : Nat → Prop} {bs : Nat} {ptr : Nat → Value} {Fs : Nat → Nat → Prop} (h : BayLies w b B F bs ptr Fs) (k : Int) :
    (B.in k = none ∧ inPtr ptr B k = .pointer none ∧ ¬ B.tcode k = 0) ∨
    ∃ d, B.in k = some d ∧ B.is k ∧ B.dev (k.toNat * 3) = some d ∧ B.tcode k = 0 ∧ inPtr ptr B k = ptr (k.toNat * 3) ∧ k.toNat * 3 < B.n * 3 := by
  unfold By.in inPtr By.tcode
  by_cases hk : B.is k
  · rw [if_pos hk, if_pos hk, if_pos hk]
    have hd := h.dev (k.toNat * 3)
    cases hdv : B.dev (k.toNat * 3) with
    | none => rw [hdv] at hd; exact .inl ⟨rfl, hd.none_form, by decide⟩
    | some d => exact .inr ⟨d, rfl, hk, rfl, rfl, rfl, by have := hk.1; have := hk.2; omega⟩
  · rw [if_neg hk, if_neg hk, if_neg hk]
    exact .inl ⟨rfl, rfl, by decide⟩

def By.has (B : By) (k : Int) : Bool := match B.in k with | none => false | some d => !d.disk.failed
def By.sectors (B : By) (k : Int) : Int := match B.in k with | none => 0 | some d => d.disk.las.length
def By.pending (B : By) (k : Int) : List Int := match B.in k with | none => [] | some d => d.disk.pending
def By.image (B : By) (k : Int) : List Int := match B.in k with | none => [] | some d => d.disk.image

section
variable {w : World} {b : Nat} {B : By} {F : Nat → Prop}
set_option maxHeartbeats 400000 in
theorem has_any (h : BayAt w b B F) (k : Int) : Calls Try.prog 27 #[.pointer (some ⟨b, 0, none⟩), .int .i64 k] w fun e w' => e = .returned (.bool (B.has k)) ∧ w = w' := by
  obtain ⟨bs, ptr, Fs, h⟩ := h
  have HI := Lib.hid (in_any h k)
  unfold By.has
  rcases h.in_cases k with ⟨h1, h2, _⟩ | ⟨d, h1, hk, hdv, _, h2, _⟩
  · rw [h1]
    rw [h2] at HI
    clear h h1 h2
    go_enter Try.func27, Try.ntmps27
    go_wp2_with (go_at_call 81; refine HI.out.mono ?_; rintro e w' ⟨rfl, rfl⟩)
    go_ret
    exact ⟨rfl, rfl⟩
  · rw [h1]
    rw [h2] at HI
    have hd := h.dev (k.toNat * 3)
    rw [hdv] at hd
    obtain ⟨bv, bd, Fd, hp, hh, hdk, _⟩ := hd
    rw [hp] at HI
    have hc := cell_at hh 0 rfl
    have HF := Lib.hid (failed_any hdk)
    clear h h1 h2 hk hdv hp hh hdk
    go_enter Try.func27, Try.ntmps27
    go_wp2_with (first | (go_at_call 81; refine HI.out.mono ?_; rintro e w' ⟨rfl, rfl⟩) | (go_at_call 67; refine HF.out.mono ?_; rintro e w' ⟨rfl, rfl⟩))
    go_ret
    exact ⟨rfl, rfl⟩
set_option maxHeartbeats 400000 in
theorem bsectors_any (h : BayAt w b B F) (k : Int) : Calls Try.prog 45 #[.pointer (some ⟨b, 0, none⟩), .int .i64 k] w fun e w' => e = .returned (.int .i64 (B.sectors k)) ∧ w = w' := by
  obtain ⟨bs, ptr, Fs, h⟩ := h
  have HI := Lib.hid (in_any h k)
  unfold By.sectors
  rcases h.in_cases k with ⟨h1, h2, _⟩ | ⟨d, h1, hk, hdv, _, h2, _⟩
  · rw [h1]
    rw [h2] at HI
    clear h h1 h2
    go_enter Try.func45, Try.ntmps45
    go_wp2_with (go_at_call 81; refine HI.out.mono ?_; rintro e w' ⟨rfl, rfl⟩)
    go_ret
    exact ⟨rfl, rfl⟩
  · rw [h1]
    rw [h2] at HI
    have hd := h.dev (k.toNat * 3)
    rw [hdv] at hd
    obtain ⟨bv, bd, Fd, hp, hh, hdk, _⟩ := hd
    rw [hp] at HI
    have hc := cell_at hh 0 rfl
    have HF := Lib.hid (sectors_any hdk)
    clear h h1 h2 hk hdv hp hh hdk
    go_enter Try.func45, Try.ntmps45
    go_wp2_with (first | (go_at_call 81; refine HI.out.mono ?_; rintro e w' ⟨rfl, rfl⟩) | (go_at_call 65; refine HF.out.mono ?_; rintro e w' ⟨rfl, rfl⟩))
    go_ret
    exact ⟨rfl, rfl⟩
theorem dark_any (h : BayAt w b B F) : Calls Try.prog 31 #[.pointer (some ⟨b, 0, none⟩)] w fun e w' => e = .returned (.bool B.dark) ∧ w = w' := by
  obtain ⟨bs, h0, h1, _⟩ := h.head
  clear h h0
  go_enter Try.func31, Try.ntmps31
  go_wp2
  go_ret
  exact ⟨rfl, rfl⟩
set_option maxHeartbeats 400000 in
theorem bpending_any (h : BayAt w b B F) (k : Int) (hcl : ∀ d, B.in k = some d → d.disk.cache.length ≤ 1000000) : Calls Try.prog 40 #[.pointer (some ⟨b, 0, none⟩), .int .i64 k] w (Gives (FreshI w (B.pending k))) := by
  obtain ⟨bs, ptr, Fs, h⟩ := h
  have HI := Lib.hid (in_any h k)
  unfold By.pending
  rcases h.in_cases k with ⟨h1, h2, _⟩ | ⟨d, h1, hk, hdv, _, h2, _⟩
  · rw [h1]
    rw [h2] at HI
    clear h h1 h2 hcl
    go_enter Try.func40, Try.ntmps40
    go_wp2_with (go_at_call 81; refine HI.out.mono ?_; rintro e w' ⟨rfl, rfl⟩)
    go_ret
    exact ⟨_, rfl, World.ownsRow_nil _ _ _ _, Keep.refl _ _⟩
  · rw [h1]
    rw [h2] at HI
    have hd := h.dev (k.toNat * 3)
    rw [hdv] at hd
    obtain ⟨bv, bd, Fd, hp, hh, hdk, _⟩ := hd
    rw [hp] at HI
    have hc := cell_at hh 0 rfl
    have HF := Lib.hid (pending_any hdk (hcl d h1))
    clear h h1 h2 hk hdv hp hh hdk hcl
    go_enter Try.func40, Try.ntmps40
    go_wp2_with (first | (go_at_call 81; refine HI.out.mono ?_; rintro e w' ⟨rfl, rfl⟩) | (go_at_call 52; refine HF.out.mono ?_; rintro e w' ⟨v, rfl, hv⟩; have HV := Lib.hid hv; clear hv))
    go_ret
    exact ⟨_, rfl, HV.out⟩
/-- What Image gives. -/
def ImagePost (w : World) (B : By) (k : Int) (v : Value) (w' : World) : Prop := ∃ s, v = .tuple #[s, .int .u16 (B.tcode k)] ∧ FreshB w (B.image k) s w'
set_option maxHeartbeats 400000 in
theorem bimage_any (h : BayAt w b B F) (k : Int) : Calls Try.prog 34 #[.pointer (some ⟨b, 0, none⟩), .int .i64 k] w (Gives (ImagePost w B k)) := by
  obtain ⟨bs, ptr, Fs, h⟩ := h
  have HT := Lib.hid (there_any h k)
  unfold ImagePost By.image
  rcases h.in_cases k with ⟨h1, h2, h3⟩ | ⟨d, h1, hk, hdv, h3, h2, _⟩
  · rw [h1]
    rw [h2] at HT
    have hne : (B.tcode k != 0) = true := by simpa using h3
    generalize B.tcode k = c at *
    clear h h1 h2 h3
    go_enter Try.func34, Try.ntmps34
    go_wp2_with (go_at_call 80; refine HT.out.mono ?_; rintro e w' ⟨rfl, rfl⟩)
    go_ret2
    exact ⟨_, rfl, _, rfl, World.ownsRow_nil _ _ _ _, Keep.refl _ _⟩
  · rw [h1, h3]
    rw [h2, h3] at HT
    have hd := h.dev (k.toNat * 3)
    rw [hdv] at hd
    obtain ⟨bv, bd, Fd, hp, hh, hdk, _⟩ := hd
    rw [hp] at HT
    have hc := cell_at hh 0 rfl
    have HF := Lib.hid (image_any hdk)
    clear h h1 h2 h3 hk hdv hp hh hdk
    go_enter Try.func34, Try.ntmps34
    go_wp2_with (first | (go_at_call 80; refine HT.out.mono ?_; rintro e w' ⟨rfl, rfl⟩) | (go_at_call 18; refine HF.out.mono ?_; rintro e w' ⟨v, rfl, hv⟩; have HV := Lib.hid hv; clear hv))
    go_ret2
    exact ⟨_, rfl, _, rfl, HV.out⟩
/-- Counts: a struct, handed over by value. -/
theorem counts_any (h : BayAt w b B F) : Calls Try.prog 29 #[.pointer (some ⟨b, 0, none⟩)] w (Gives fun v w' => v = .agg #[.int .i64 B.cr, .int .i64 B.cw, .int .i64 B.cf] ∧ Keep NoF w w') := by
  obtain ⟨bs, h0, h1, h2, h3, h4, h5⟩ := h.head
  have hb := World.block_lt_of_cell? w _ h0
  clear h h0 h1 h2
  go_enter Try.func29, Try.ntmps29
  go_wp2
  refine bodyPost_ret (v := .agg #[.int .i64 B.cr, .int .i64 B.cw, .int .i64 B.cf]) ?_ rfl ⟨_, rfl, rfl, ?_⟩
  · simp [results, Try.results29, go_sem]
  · exact Keep.alloc _ _ _
end
end Go.Proofs.Ytghnbbpoaeheaaa
