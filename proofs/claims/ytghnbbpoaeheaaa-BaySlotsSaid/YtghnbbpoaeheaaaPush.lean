/- The bay's Push and taken, walked: a disk that is aside is coming. -/
import Derived.Test.YtghnbbpoaeheaaaPull
namespace Go.Proofs.Ytghnbbpoaeheaaa
open Go.RowKit

def By.takenAt (B : By) (q : Nat) : Bool := (match B.dev q with | none => false | some d => !d.disk.failed) || (B.dev (q + 2)).isSome
def coming (q : Nat) : Nat → Option Nat := fun j => if j = q + 2 then some (q + 1) else if j = q + 1 then none else some j
def By.pushc (B : By) (k : Int) : Int := if B.is k then (match B.dev (k.toNat * 3 + 1) with | none => 51 | some _ => if B.takenAt (k.toNat * 3) then 52 else 0) else 1
def By.push (B : By) (k : Int) : By := if B.pushc k = 0 then { B with dev := moved (coming (k.toNat * 3)) B.dev none } else B

section
variable {w : World} {b : Nat} {B : By} {F : Nat → Prop} {bs : Nat} {ptr : Nat → Value} {Fs : Nat → Nat → Prop}
theorem taken_any (h : BayLies w b B F bs ptr Fs) (q : Nat) (hq : q + 2 < B.n * 3) : Calls Try.prog 93 #[.pointer (some ⟨bs, q, none⟩)] w fun e w' => e = .returned (.bool (B.takenAt q)) ∧ w = w' := by
  have c0 := h.slot (j := q) (by omega)
  have c2 := h.slot (j := q + 2) hq
  have hd := h.dev q
  have hd2 := h.dev (q + 2)
  unfold By.takenAt
  cases hdv : B.dev q with
  | none =>
    rw [hdv] at hd
    rw [hd.none_form] at c0
    cases hdv2 : B.dev (q + 2) with
    | none =>
      rw [hdv2] at hd2
      rw [hd2.none_form] at c2
      clear h hd hd2 hdv hdv2 hq
      go_enter Try.func93, Try.ntmps93
      go_wp2
      go_ret
      exact ⟨rfl, rfl⟩
    | some e =>
      rw [hdv2] at hd2
      obtain ⟨bv2, bd2, hp2, _⟩ := hd2.some_form
      rw [hp2] at c2
      clear h hd hd2 hdv hdv2 hq
      go_enter Try.func93, Try.ntmps93
      go_wp2
      go_ret
      exact ⟨rfl, rfl⟩
  | some d =>
    rw [hdv] at hd
    obtain ⟨bv, bd, Fd, hp, hh, hdk, _⟩ := hd
    rw [hp] at c0
    have c1 := cell_at hh 0 rfl
    have HF := Lib.hid (failed_any hdk)
    cases hdv2 : B.dev (q + 2) with
    | none =>
      rw [hdv2] at hd2
      rw [hd2.none_form] at c2
      cases hf : d.disk.failed with
      | true =>
        rw [hf] at HF
        clear h hd2 hdv hdv2 hq hp hh hdk
        go_enter Try.func93, Try.ntmps93
        go_wp2_with (go_at_call 67; refine HF.out.mono ?_; rintro e w' ⟨rfl, rfl⟩)
        go_ret
        refine ⟨?_, rfl⟩
        show _ = Ending.returned (.bool (!d.disk.failed || _))
        rw [hf]
        rfl
      | false =>
        rw [hf] at HF
        clear h hd2 hdv hdv2 hq hp hh hdk
        go_enter Try.func93, Try.ntmps93
        go_wp2_with (go_at_call 67; refine HF.out.mono ?_; rintro e w' ⟨rfl, rfl⟩)
        go_ret
        refine ⟨?_, rfl⟩
        show _ = Ending.returned (.bool (!d.disk.failed || _))
        rw [hf]
        rfl
    | some e =>
      rw [hdv2] at hd2
      obtain ⟨bv2, bd2, hp2, _⟩ := hd2.some_form
      rw [hp2] at c2
      cases hf : d.disk.failed with
      | true =>
        rw [hf] at HF
        clear h hd2 hdv hdv2 hq hp hh hdk
        go_enter Try.func93, Try.ntmps93
        go_wp2_with (go_at_call 67; refine HF.out.mono ?_; rintro e w' ⟨rfl, rfl⟩)
        go_ret
        refine ⟨?_, rfl⟩
        show _ = Ending.returned (.bool (!d.disk.failed || _))
        rw [hf]
        rfl
      | false =>
        rw [hf] at HF
        clear h hd2 hdv hdv2 hq hp hh hdk
        go_enter Try.func93, Try.ntmps93
        go_wp2_with (go_at_call 67; refine HF.out.mono ?_; rintro e w' ⟨rfl, rfl⟩)
        go_ret
        refine ⟨?_, rfl⟩
        show _ = Ending.returned (.bool (!d.disk.failed || _))
        rw [hf]
        rfl
end

set_option maxRecDepth 100000 in
set_option maxHeartbeats 1000000 in
theorem push_any {w : World} {b : Nat} {B : By} {F : Nat → Prop} (h : BayAt w b B F) (k : Int) : Calls Try.prog 46 #[.pointer (some ⟨b, 0, none⟩), .int .i64 k] w (Gives (CodePost (B.pushc k) (BayPost w b (B.push k) F))) := by
  have hsame := Lib.hid (BayPost.same h)
  obtain ⟨bs, ptr, Fs, h⟩ := h
  have HA := Lib.hid (at_any h k)
  unfold By.push
  by_cases hk : B.is k
  · have hkk : 0 ≤ k ∧ k < B.n := hk
    have es : slotPtr bs B.n k = .pointer (some ⟨bs, k.toNat * 3, none⟩) := by unfold slotPtr; exact if_pos hkk
    rw [es] at HA
    have hq : k.toNat * 3 + 2 < B.n * 3 := by omega
    have ec : B.pushc k = (match B.dev (k.toNat * 3 + 1) with | none => 51 | some _ => if B.takenAt (k.toNat * 3) then 52 else 0) := if_pos hk
    rw [ec]
    have HT := Lib.hid (taken_any h (k.toNat * 3) hq)
    have c1 := h.slot (j := k.toNat * 3 + 1) (by omega)
    have c2 := h.slot (j := k.toNat * 3 + 2) hq
    have f1 := free_at h.hs (k.toNat * 3 + 1)
    have f2 := free_at h.hs (k.toNat * 3 + 2)
    have hd := h.dev (k.toNat * 3 + 1)
    cases hdv : B.dev (k.toNat * 3 + 1) with
    | none =>
      rw [hdv] at hd
      rw [hd.none_form] at c1
      generalize k.toNat * 3 = q at *
      clear h hd hdv hk hkk es ec hq
      go_enter Try.func46, Try.ntmps46
      go_wp2_with (go_at_call 92; refine HA.out.mono ?_; rintro e w' ⟨rfl, rfl⟩)
      go_ret
      exact ⟨_, rfl, rfl, hsame.out⟩
    | some d =>
      rw [hdv] at hd
      obtain ⟨bv, bd, hp, _⟩ := hd.some_form
      rw [hp] at c1
      cases ht : B.takenAt (k.toNat * 3) with
      | true =>
        rw [ht] at HT
        generalize k.toNat * 3 = q at *
        clear h hd hdv hk hkk es ec hq hp ht
        go_enter Try.func46, Try.ntmps46
        go_wp2_with (first | (go_at_call 92; refine HA.out.mono ?_; rintro e w' ⟨rfl, rfl⟩) | (go_at_call 93; refine HT.out.mono ?_; rintro e w' ⟨rfl, rfl⟩))
        go_ret
        exact ⟨_, rfl, rfl, hsame.out⟩
      | false =>
        rw [ht] at HT
        have e2 : B.dev (k.toNat * 3 + 2) = none := by
          unfold By.takenAt at ht
          cases hx : B.dev (k.toNat * 3 + 2) with
          | none => rfl
          | some e => rw [hx] at ht; simp at ht
        have hkk2 : Keep (· = bs) w ((w.setCell ⟨bs, k.toNat * 3 + 1, none⟩ (.pointer none)).setCell ⟨bs, k.toNat * 3 + 2, none⟩ (.pointer (some ⟨bv, 0, none⟩))) := (Keep.setCell (F := (· = bs)) w ⟨bs, k.toNat * 3 + 1, none⟩ (.pointer none) rfl).trans' (Keep.setCell (F := (· = bs)) _ ⟨bs, k.toNat * 3 + 2, none⟩ (.pointer (some ⟨bv, 0, none⟩)) rfl)
        have hs2 := heap_setCell_same _ bs (k.toNat * 3 + 2) _ _ (.pointer (some ⟨bv, 0, none⟩)) (heap_setCell_same w bs (k.toNat * 3 + 1) _ _ (.pointer none) h.hs)
        rw [map_put, map_put] at hs2
        have ep : put (put ptr (k.toNat * 3 + 1) (.pointer none)) (k.toNat * 3 + 2) (.pointer (some ⟨bv, 0, none⟩)) = moved (coming (k.toNat * 3)) ptr (.pointer none) := by
          funext j
          unfold put moved coming
          by_cases h1 : j = k.toNat * 3 + 2
          · rw [if_pos h1, if_pos h1]; exact hp.symm
          · rw [if_neg h1, if_neg h1]
            by_cases h2 : j = k.toNat * 3 + 1
            · rw [if_pos h2, if_pos h2]
            · rw [if_neg h2, if_neg h2]
        rw [ep] at hs2
        have hsh := h.shuffle hkk2 (coming (k.toNat * 3)) (fun i j s h1 h2 => by
          unfold coming at h1 h2
          split at h1 <;> split at h2 <;> simp at h1 h2 <;> omega) (fun j hj => by
          unfold coming
          rw [if_neg (by omega), if_neg (by omega)]) hs2
        have hbsF : F bs := (h.hF bs).2 (.inr (.inl rfl))
        have HQ : Hid (BayPost w b { B with dev := moved (coming (k.toNat * 3)) B.dev none } F ((w.setCell ⟨bs, k.toNat * 3 + 1, none⟩ (.pointer none)).setCell ⟨bs, k.toNat * 3 + 2, none⟩ (.pointer (some ⟨bv, 0, none⟩)))) := by
          refine ⟨_, ⟨bs, _, _, hsh⟩, hkk2.mono (fun x _ e => (show x = bs from e) ▸ hbsF), ?_⟩
          rintro x (rfl | rfl | ⟨j, hj⟩)
          · exact .inl ((h.hF _).2 (.inl rfl))
          · exact .inl hbsF
          · unfold moved at hj
            cases h1 : coming (k.toNat * 3) j with
            | none => rw [h1] at hj; exact hj.elim
            | some s => rw [h1] at hj; exact .inl ((h.hF x).2 (.inr (.inr ⟨s, hj⟩)))
        have hbs := lt_of_heap h.hs
        generalize k.toNat * 3 = q at *
        clear h hd hdv hk hkk es ec hq hp ht e2 hkk2 hs2 ep hsh hbsF hsame
        go_enter Try.func46, Try.ntmps46
        go_wp2_with (first | (go_at_call 92; refine HA.out.mono ?_; rintro e w' ⟨rfl, rfl⟩) | (go_at_call 93; refine HT.out.mono ?_; rintro e w' ⟨rfl, rfl⟩))
        go_ret
        exact ⟨_, rfl, rfl, HQ.out⟩
  · have es : slotPtr bs B.n k = .pointer none := by unfold slotPtr; exact if_neg hk
    rw [es] at HA
    have ec : B.pushc k = 1 := if_neg hk
    rw [ec]
    clear h hk es ec
    go_enter Try.func46, Try.ntmps46
    go_wp2_with (go_at_call 92; refine HA.out.mono ?_; rintro e w' ⟨rfl, rfl⟩)
    go_ret
    exact ⟨_, rfl, rfl, hsame.out⟩
end Go.Proofs.Ytghnbbpoaeheaaa
