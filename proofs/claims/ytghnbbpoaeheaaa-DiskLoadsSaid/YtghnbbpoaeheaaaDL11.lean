/- The bay's Push and taken, walked: a disk that is aside is coming. -/
import Derived.Test.YtghnbbpoaeheaaaDL10
namespace Go.Proofs.Ytghnbbpoaeheaaa
open Go.RowKit

def By.takenAt (B : By) (q : Nat) : Bool := (match B.dev q with | none => false | some d => !d.disk.failed) || (B.dev (q + 2)).isSome
def coming (q : Nat) : Nat → Option Nat := fun j => if j = q + 2 then some (q + 1) else if j = q + 1 then none else some j
def By.pushc (B : By) (k : Int) : Int := if B.is k then (match B.dev (k.toNat * 3 + 1) with | none => 51 | some _ => if B.takenAt (k.toNat * 3) then 52 else 0) else 1
def By.push (B : By) (k : Int) : By := if B.pushc k = 0 then { B with dev := moved (coming (k.toNat * 3)) B.dev none } else B

section
variable {w : World} {b : Nat} {B : By} {F : Nat → Prop} {bs : Nat} {ptr : Nat → Value} {Fs : Nat → Nat → Prop}
theorem taken_any (h : BayLies w b B F bs ptr Fs) (q : Nat) (hq : q + 2 < B.n * 3) : Calls Try.prog 93 #[.pointer (some ⟨bs, q, none⟩)] w fun e w' => e = .returned (.bool (B.takenAt q)) ∧ w = w' := by
  have c0 := h.slot (j := q) (by omega)
  have c2 := h.slot (j := q + 2) hq
  have hd := h.dev q
  have hd2 := h.dev (q + 2)
  unfold By.takenAt
  cases hdv : B.dev q with
  | none =>
    rw [hdv] at hd
    rw [hd.none_form] at c0
    cases hdv2 : B.dev (q + 2) with
    | none =>
      rw [hdv2] at hd2
      rw [hd2.none_form] at c2
      clear h hd hd2 hdv hdv2 hq
      go_enter Try.func93, Try.ntmps93
      go_wp2
      go_ret
      exact ⟨rfl, rfl⟩
    | some e =>
      rw [hdv2] at hd2
      obtain ⟨bv2, bd2, hp2, _⟩ := hd2.some_form
      rw [hp2] at c2
      clear h hd hd2 hdv hdv2 hq
      go_enter Try.func93, Try.ntmps93
      go_wp2
      go_ret
      exact ⟨rfl, rfl⟩
  | some d =>
    rw [hdv] at hd
    obtain ⟨bv, bd, Fd, hp, hh, hdk, _⟩ := hd
    rw [hp] at c0
    have c1 := cell_at hh 0 rfl
    have HF := Lib.hid (failed_any hdk)
    cases hdv2 : B.dev (q + 2) with
    | none =>
      rw [hdv2] at hd2
      rw [hd2.none_form] at c2
      cases hf : d.disk.failed with
      | true =>
        rw [hf] at HF
        clear h hd2 hdv hdv2 hq hp hh hdk
        go_enter Try.func93, Try.ntmps93
        go_wp2_with (go_at_call 67; refine HF.out.mono ?_; rintro e w' ⟨rfl, rfl⟩)
        go_ret
        refine ⟨?_, rfl⟩
        show _ = Ending.returned (.bool (!d.disk.failed || _))
        rw [hf]
        rfl
      | false =>
        rw [hf] at HF
        clear h hd2 hdv hdv2 hq hp hh hdk
        go_enter Try.func93, Try.ntmps93
        go_wp2_with (go_at_call 67; refine HF.out.mono ?_; rintro e w' ⟨rfl, rfl⟩)
        go_ret
        refine ⟨?_, rfl⟩
        show _ = Ending.returned (.bool (!d.disk.failed || _))
        rw [hf]
        rfl
    | some e =>
      rw [hdv2] at hd2
      obtain ⟨bv2, bd2, hp2, _⟩ := hd2.some_form
      rw [hp2] at c2
      cases hf : d.disk.failed with
      | true =>
        rw [hf] at HF
        clear h hd2 hdv hdv2 hq hp hh hdk
        go_enter Try.func93, Try.ntmps93
        go_wp2_with (go_at_call 67; refine HF.out.mono ?_; rintro e w' ⟨rfl, rfl⟩)
        go_ret
        refine ⟨?_, rfl⟩
        show _ = Ending.returned (.bool (!d.disk.failed || _))
        rw [hf]
        rfl
      | false =>
        rw [hf] at HF
        clear h hd2 hdv hdv2 hq hp hh hdk
        go_enter Try.func93, Try.ntmps93
        go_wp2_with (go_at_call 67; refine HF.out.mono ?_; rintro e w' ⟨rfl, rfl⟩)
        go_ret
        refine ⟨?_, rfl⟩
        show _ = Ending.returned (.bool (!d.disk.failed || _))
        rw [hf]
        rfl
end

set_option maxRecDepth 100000 in
set_option maxHeartbeats 1000000 in
theorem push_any {w : World} {b : Nat} {B : By} {F : Nat → Prop} (h : BayAt w b B F) (k : Int) : Calls Try.prog 46 #[.pointer (some ⟨b, 0, none⟩), .int .i64 k] w (Gives (CodePost (B.pushc k) (BayPost w b (B.push k) F))) := by
  have hsame := Lib.hid (BayPost.same h)
  obtain ⟨bs, ptr, Fs, h⟩ := h
  have HA := Lib.hid (at_any h k)
  unfold By.push
  by_cases hk : B.is k
  · have hkk : 0 ≤ k ∧ k < B.n := hk
    have es : slotPtr bs B.n k = .pointer (some ⟨bs, k.toNat * 3, none⟩) := by unfold slotPtr; exact if_pos hkk
    rw [es] at HA
    have hq : k.toNat * 3 + 2 < B.n * 3 := by omega
    have ec : B.pushc k = (match B.dev (k.toNat * 3 + 1) with | none => 51 | some _ => if B.takenAt (k.toNat * 3) then 52 else 0) := if_pos hk
    rw [ec]
    have HT := Lib.hid (taken_any h (k.toNat * 3) hq)
    have c1 := h.slot (j := k.toNat * 3 + 1) (by omega)
    have c2 := h.slot (j := k.toNat * 3 + 2) hq
    have f1 := free_at h.hs (k.toNat * 3 + 1)
    have f2 := free_at h.hs (k.toNat * 3 + 2)
    have hd := h.dev (k.toNat * 3 + 1)
    cases hdv : B.dev (k.toNat * 3 + 1) with
    | none =>
      rw [hdv] at hd
      rw [hd.none_form] at c1
      generalize k.toNat * 3 = q at *
      clear h hd hdv hk hkk es ec hq
      go_enter Try.func46, Try.ntmps46
      go_wp2_with (go_at_call 92; refine HA.out.mono ?_; rintro e w' ⟨rfl, rfl⟩)
      go_ret
      exact ⟨_, rfl, rfl, hsame.out⟩
    | some d =>
      rw [hdv] at hd
      obtain ⟨bv, bd, hp, _⟩ := hd.some_form
      rw [hp] at c1
      cases ht : B.takenAt (k.toNat * 3) with
      | true =>
        rw [ht] at HT
        generalize k.toNat * 3 = q at *
        clear h hd hdv hk hkk es ec hq hp ht
        go_enter Try.func46, Try.ntmps46
        go_wp2_with (first | (go_at_call 92; refine HA.out.mono ?_; rintro e w' ⟨rfl, rfl⟩) | (go_at_call 93; refine HT.out.mono ?_; rintro e w' ⟨rfl, rfl⟩))
        go_ret
        exact ⟨_, rfl, rfl, hsame.out⟩
      | false =>
        rw [ht] at HT
        have e2 : B.dev (k.toNat * 3 + 2) = none := by
          unfold By.takenAt at ht
          cases hx : B.dev (k.toNat * 3 + 2) with
          | none => rfl
          | some e => rw [hx] at ht; simp at ht
        have hkk2 : Keep (· = bs) w ((w.setCell ⟨bs, k.toNat * 3 + 1, none⟩ (.pointer none)).setCell ⟨bs, k.toNat * 3 + 2, none⟩ (.pointer (some ⟨bv, 0, none⟩))) := (Keep.setCell (F := (· = bs)) w ⟨bs, k.toNat * 3 + 1, none⟩ (.pointer none) rfl).trans' (Keep.setCell (F := (· = bs)) _ ⟨bs, k.toNat * 3 + 2, none⟩ (.pointer (some ⟨bv, 0, none⟩)) rfl)
        have hs2 := heap_setCell_same _ bs (k.toNat * 3 + 2) _ _ (.pointer (some ⟨bv, 0, none⟩)) (heap_setCell_same w bs (k.toNat * 3 + 1) _ _ (.pointer none) h.hs)
        rw [map_put, map_put] at hs2
        have ep : put (put ptr (k.toNat * 3 + 1) (.pointer none)) (k.toNat * 3 + 2) (.pointer (some ⟨bv, 0, none⟩)) = moved (coming (k.toNat * 3)) ptr (.pointer none) := by
          funext j
          unfold put moved coming
          by_cases h1 : j = k.toNat * 3 + 2
          · rw [if_pos h1, if_pos h1]; exact hp.symm
          · rw [if_neg h1, if_neg h1]
            by_cases h2 : j = k.toNat * 3 + 1
            · rw [if_pos h2, if_pos h2]
            · rw [if_neg h2, if_neg h2]
        rw [ep] at hs2
        have hsh := h.shuffle hkk2 (coming (k.toNat * 3)) (fun i j s h1 h2 => by
          unfold coming at h1 h2
          split at h1 <;> split at h2 <;> simp at h1 h2 <;> omega) (fun j hj => by
          unfold coming
          rw [if_neg (by omega), if_neg (by omega)]) hs2
        have hbsF : F bs := (h.hF bs).2 (.inr (.inl rfl))
        have HQ : Hid (BayPost w b { B with dev := moved (coming (k.toNat * 3)) B.dev none } F ((w.setCell ⟨bs, k.toNat * 3 + 1, none⟩ (.pointer none)).setCell ⟨bs, k.toNat * 3 + 2, none⟩ (.pointer (some ⟨bv, 0, none⟩)))) := by
          refine ⟨_, ⟨bs, _, _, hsh⟩, hkk2.mono (fun x _ e => (show x = bs from e) ▸ hbsF), ?_⟩
          rintro x (rfl | rfl | ⟨j, hj⟩)
          · exact .inl ((h.hF _).2 (.inl rfl))
          · exact .inl hbsF
          · unfold moved at hj
            cases h1 : coming (k.toNat * 3) j with
            | none => rw [h1] at hj; exact hj.elim
            | some s => rw [h1] at hj; exact .inl ((h.hF x).2 (.inr (.inr ⟨s, hj⟩)))
        have hbs := lt_of_heap h.hs
        generalize k.toNat * 3 = q at *
        clear h hd hdv hk hkk es ec hq hp ht e2 hkk2 hs2 ep hsh hbsF hsame
        go_enter Try.func46, Try.ntmps46
        go_wp2_with (first | (go_at_call 92; refine HA.out.mono ?_; rintro e w' ⟨rfl, rfl⟩) | (go_at_call 93; refine HT.out.mono ?_; rintro e w' ⟨rfl, rfl⟩))
        go_ret
        exact ⟨_, rfl, rfl, HQ.out⟩
  · have es : slotPtr bs B.n k = .pointer none := by unfold slotPtr; exact if_neg hk
    rw [es] at HA
    have ec : B.pushc k = 1 := if_neg hk
    rw [ec]
    clear h hk es ec
    go_enter Try.func46, Try.ntmps46
    go_wp2_with (go_at_call 92; refine HA.out.mono ?_; rintro e w' ⟨rfl, rfl⟩)
    go_ret
    exact ⟨_, rfl, rfl, hsame.out⟩
end Go.Proofs.Ytghnbbpoaeheaaa

/- The bay's Cut, walked, whatever is coming. -/
namespace Go.Proofs.Ytghnbbpoaeheaaa
open Go.RowKit

/-- The disk that is coming stands in the slot. -/
def comeq (q : Nat) : Nat → Option Nat := fun j => if j = q then some (q + 2) else if j = q + 2 then none else some j
def By.comeAt (B : By) (i : Nat) : By := match B.dev (i * 3 + 2) with | none => B | some _ => { B with dev := moved (comeq (i * 3)) B.dev none }
def By.cutgTo (B : By) (kl : List (Value × List Bool)) : Nat → By
  | 0 => B
  | i + 1 => ((B.cutgTo kl i).crashAt kl i).comeAt i
def By.cutg (B : By) (kl : List (Value × List Bool)) : By := { B.cutgTo kl B.n with dark := false, trip := -1 }
theorem comeAt_n (B : By) (i : Nat) : (B.comeAt i).n = B.n := by unfold By.comeAt; split <;> rfl
theorem cutgTo_n (B : By) (kl : List (Value × List Bool)) : ∀ i, (B.cutgTo kl i).n = B.n
  | 0 => rfl
  | i + 1 => by rw [By.cutgTo, comeAt_n, (crashAt_head _ kl i).1, cutgTo_n B kl i]
theorem Small.comeAt {B : By} {m : Int} (h : B.Small m) (i : Nat) : (B.comeAt i).Small m := by
  unfold By.comeAt
  split
  · exact h
  · refine ⟨h.cr, h.cw, h.cf, fun j e he => ?_⟩
    simp only [moved] at he
    split at he
    · cases he
    · exact h.cl _ e he
theorem Small.cutgTo {B : By} {m : Int} (h : B.Small m) (hm : 0 ≤ m) (kl : List (Value × List Bool)) : ∀ i, (B.cutgTo kl i).Small m
  | 0 => h
  | i + 1 => Small.comeAt (Small.crashAt (Small.cutgTo h hm kl i) hm kl i) i
theorem Small.cutg {B : By} {m : Int} (h : B.Small m) (hm : 0 ≤ m) (kl : List (Value × List Bool)) : (B.cutg kl).Small m := by
  have := Small.cutgTo h hm kl B.n
  exact ⟨this.cr, this.cw, this.cf, this.cl⟩

/-- What the second half of a round does to the bay in memory. -/
theorem come_post {w : World} {b : Nat} {B : By} {F : Nat → Prop} {bs : Nat} {ptr : Nat → Value} {Fs : Nat → Nat → Prop} (h : BayLies w b B F bs ptr Fs) {i : Nat} (hi : i < B.n) {e : Dev} (he : B.dev (i * 3 + 2) = some e) :
    BayPost w b (B.comeAt i) F ((w.setCell ⟨bs, i * 3, none⟩ (ptr (i * 3 + 2))).setCell ⟨bs, i * 3 + 2, none⟩ (.pointer none)) := by
  have hkk : Keep (· = bs) w ((w.setCell ⟨bs, i * 3, none⟩ (ptr (i * 3 + 2))).setCell ⟨bs, i * 3 + 2, none⟩ (.pointer none)) := (Keep.setCell (F := (· = bs)) w ⟨bs, i * 3, none⟩ (ptr (i * 3 + 2)) rfl).trans' (Keep.setCell (F := (· = bs)) _ ⟨bs, i * 3 + 2, none⟩ (.pointer none) rfl)
  have hs2 := heap_setCell_same _ bs (i * 3 + 2) _ _ (.pointer none) (heap_setCell_same w bs (i * 3) _ _ (ptr (i * 3 + 2)) h.hs)
  rw [map_put, map_put] at hs2
  have ep : put (put ptr (i * 3) (ptr (i * 3 + 2))) (i * 3 + 2) (.pointer none) = moved (comeq (i * 3)) ptr (.pointer none) := by
    funext j
    unfold put moved comeq
    by_cases h1 : j = i * 3 + 2
    · rw [if_pos h1, if_neg (by omega), if_pos h1]
    · rw [if_neg h1]
      by_cases h2 : j = i * 3
      · rw [if_pos h2, if_pos h2]
      · rw [if_neg h2, if_neg h2, if_neg h1]
  rw [ep] at hs2
  have hsh := h.shuffle hkk (comeq (i * 3)) (fun a c s h1 h2 => by
    unfold comeq at h1 h2
    split at h1 <;> split at h2 <;> simp at h1 h2 <;> omega) (fun j hj => by
    unfold comeq
    rw [if_neg (by omega), if_neg (by omega)]) hs2
  have hbsF : F bs := (h.hF bs).2 (.inr (.inl rfl))
  unfold By.comeAt
  rw [he]
  refine ⟨_, ⟨bs, _, _, hsh⟩, hkk.mono (fun x _ e => (show x = bs from e) ▸ hbsF), ?_⟩
  rintro x (rfl | rfl | ⟨j, hj⟩)
  · exact .inl ((h.hF _).2 (.inl rfl))
  · exact .inl hbsF
  · unfold moved at hj
    cases h1 : comeq (i * 3) j with
    | none => rw [h1] at hj; exact hj.elim
    | some s => rw [h1] at hj; exact .inl ((h.hF x).2 (.inr (.inr ⟨s, hj⟩)))
theorem BayPost.trans {w0 w w' : World} {b : Nat} {B' : By} {F F1 : Nat → Prop} (hk : Keep F w0 w) (hF : ∀ x, F1 x → F x ∨ w0.heap.size ≤ x) (h : BayPost w b B' F1 w') : BayPost w0 b B' F w' := by
  obtain ⟨F2, g1, g2, g3⟩ := h
  refine ⟨F2, g1, hk.trans g2 (fun x hx hf => (hF x hf).resolve_right (by omega)), fun x hx => ?_⟩
  rcases g3 x hx with hx | hx
  · exact hF x hx
  · exact .inr (Nat.le_trans hk.size hx)

/-- What a round's first half leaves for the second: the coming disk's cell, and the bay behind the whole round. -/
def Half (w : World) (b : Nat) (B2 : By) (F : Nat → Prop) (bs q : Nat) (w1 : World) : Prop :=
  (w1.cell? ⟨bs, q + 2, none⟩ = some (.pointer none) ∧ BayPost w b B2 F w1) ∨
  (∃ bv v0, w1.cell? ⟨bs, q + 2, none⟩ = some (.pointer (some ⟨bv, 0, none⟩)) ∧ w1.cell? ⟨bs, q, none⟩ = some v0 ∧ w1.frozen? ⟨bs, q, none⟩ = false ∧ w1.frozen? ⟨bs, q + 2, none⟩ = false ∧ bs < w1.heap.size ∧
    BayPost w b B2 F ((w1.setCell ⟨bs, q, none⟩ (.pointer (some ⟨bv, 0, none⟩))).setCell ⟨bs, q + 2, none⟩ (.pointer none)))
theorem half_of {w0 w1 : World} {b : Nat} {B1 : By} {F0 F1 : Nat → Prop} {bs : Nat} {ptr : Nat → Value} {Fs : Nat → Nat → Prop} (h : BayLies w1 b B1 F1 bs ptr Fs) {i : Nat} (hi : i < B1.n) (hk : Keep F0 w0 w1) (hF : ∀ x, F1 x → F0 x ∨ w0.heap.size ≤ x) : Half w0 b (B1.comeAt i) F0 bs (i * 3) w1 := by
  have c2 := h.slot (j := i * 3 + 2) (by omega)
  have c0 := h.slot (j := i * 3) (by omega)
  have hd := h.dev (i * 3 + 2)
  cases hdv : B1.dev (i * 3 + 2) with
  | none =>
    rw [hdv] at hd
    rw [hd.none_form] at c2
    refine .inl ⟨c2, F1, ?_, hk, hF⟩
    unfold By.comeAt
    rw [hdv]
    exact ⟨bs, ptr, Fs, h⟩
  | some e =>
    rw [hdv] at hd
    obtain ⟨bv, bd, hp, _⟩ := hd.some_form
    have := come_post h hi hdv
    rw [hp] at this
    rw [hp] at c2
    exact .inr ⟨bv, _, c2, c0, free_at h.hs _, free_at h.hs _, lt_of_heap h.hs, this.trans hk hF⟩

set_option maxRecDepth 100000 in
set_option maxHeartbeats 2000000 in
theorem cutg_core {w : World} {b : Nat} {B : By} {F : Nat → Prop} (h : BayAt w b B F) {ka : Option Addr} {kc : Nat} {kl : List (Value × List Bool)} (hkf : kl.length ≤ far)
    (hk : ∀ (wr : World) (F1 : Nat → Prop), Keep F w wr → (∀ x, F1 x → F x ∨ w.heap.size ≤ x) → ∀ i, i < kl.length → ∃ bb o a c, ka = some ⟨bb, o, none⟩ ∧ wr.cell? ⟨bb, o + i, none⟩ = some (.slice a (keepsFor kl i).length c) ∧
      BoolsAt wr (.slice a (keepsFor kl i).length c) (keepsFor kl i) ∧ ∀ a' n c', Value.slice a (keepsFor kl i).length c = .slice (some a') n c' → keepsFor kl i ≠ [] → ¬ F1 a'.block) (hs : B.Small 1000000) :
    Calls Try.prog 33 #[.pointer (some ⟨b, 0, none⟩), .slice ka kl.length kc] w (Gives fun v w' => v = .tuple #[] ∧ BayPost w b (B.cutg kl) F w') := by
  unfold far at hkf
  have hn := h.ok.le
  have HK := Lib.hid hk
  have HS : Hid (∀ i, (B.cutgTo kl i).Small 1000000) := fun i => Small.cutgTo hs (by omega) kl i
  have H0 : Hid (BayPost w b (B.cutgTo kl 0) F w) := BayPost.same h
  obtain ⟨bs, c0, -⟩ := h.head
  have HH : Hid (∀ i, (B.cutgTo kl i).n = B.n) := fun i => cutgTo_n B kl i
  have HC : Hid (∀ wr, BayPost w b (B.cutgTo kl B.n) F wr → ∃ d t, (wr.cell? ⟨b, 1, none⟩ = some (.bool d) ∧ wr.cell? ⟨b, 2, none⟩ = some (.int .i64 t)) ∧ wr.frozen? ⟨b, 1, none⟩ = false ∧ wr.frozen? ⟨b, 2, none⟩ = false ∧ b < wr.heap.size ∧ BayPost w b (B.cutg kl) F ((wr.setCell ⟨b, 1, none⟩ (.bool false)).setCell ⟨b, 2, none⟩ (.int .i64 (-1)))) := fun wr hp => by
    obtain ⟨F1, ⟨bs1, ptr1, Fs1, hl⟩, hk1, hF1⟩ := hp
    have hd := hl.head
    have hk2 : Keep (· = b) wr ((wr.setCell ⟨b, 1, none⟩ (.bool false)).setCell ⟨b, 2, none⟩ (.int .i64 (-1))) := (Keep.setCell (F := (· = b)) wr ⟨b, 1, none⟩ (.bool false) rfl).trans' (Keep.setCell (F := (· = b)) _ ⟨b, 2, none⟩ (.int .i64 (-1)) rfl)
    have hb2 := heap_setCell_same _ b 2 _ _ (.int .i64 (-1)) (heap_setCell_same wr b 1 _ _ (.bool false) hl.hb)
    have hl2 : BayLies _ b (B.cutg kl) F1 bs1 ptr1 Fs1 := hl.rehead (B' := B.cutg kl) hk2 rfl rfl ⟨by show (-1 : Int) ≤ -1; decide, by show (-1 : Int) ≤ 9223372036854775807; decide⟩ (by
      show _ = some (Obj.cells #[.slice (some ⟨bs1, 0, none⟩) (B.cutgTo kl B.n).n (B.cutgTo kl B.n).n, .bool false, .int .i64 (-1), .int .i64 (B.cutgTo kl B.n).cr, .int .i64 (B.cutgTo kl B.n).cw, .int .i64 (B.cutgTo kl B.n).cf] 130 (0, 0))
      simpa using hb2)
    have hb1 : F1 b := (hl.hF b).2 (.inl rfl)
    have hbF : F b ∨ w.heap.size ≤ b := hF1 b hb1
    have hblt : b < w.heap.size := World.block_lt_of_cell? w _ c0
    exact ⟨_, _, ⟨hd.2.1, hd.2.2.1⟩, free_at hl.hb 1, free_at hl.hb 2, lt_of_heap hl.hb, F1, ⟨bs1, ptr1, Fs1, hl2⟩, hk1.trans hk2 (fun x hx e => by have : x = b := e; subst this; exact hbF.resolve_right (by omega)), hF1⟩
  clear hk hs h
  go_enter Try.func33, Try.ntmps33
  go_wp2
  go_loopw [12] (fun t wr => ∃ i : Nat, i ≤ B.n ∧ t = .int .i64 i ∧ BayPost w b (B.cutgTo kl i) F wr) (fun t _ => B.n - (intOf t).toNat)
  case atStart => exact ⟨0, Nat.zero_le _, rfl, H0.out⟩
  case round =>
    obtain ⟨i, hi, rfl, hp⟩ := hrel
    by_cases hlt : i < B.n
    · obtain ⟨F1, ⟨bs1, ptr1, Fs1, hl⟩, hk1, hF1⟩ := id hp
      have hn1 := HH.out i
      obtain ⟨q0, -⟩ := hl.head
      rw [hn1] at q0
      have q1 := hl.slot (j := i * 3) (by rw [hn1]; omega)
      have hd := hl.dev (i * 3)
      cases hdv : (B.cutgTo kl i).dev (i * 3) with
      | none =>
        rw [hdv] at hd
        rw [hd.none_form] at q1
        have HP : Half w b (B.cutgTo kl (i + 1)) F bs1 (i * 3) wr := by
          have e : (B.cutgTo kl i).crashAt kl i = B.cutgTo kl i := by unfold By.crashAt; rw [hdv]
          rw [By.cutgTo, e]
          exact half_of hl (by rw [hn1]; exact hlt) hk1 hF1
        clear hl hk1 hF1 hd hdv hp hn1
        rcases HP with ⟨r1, r2⟩ | ⟨bv, v0, r1, r2, r3, r4, r5, r6⟩
        · have HR := Lib.hid r2
          clear r2
          go_wp2
          exact ⟨⟨i + 1, by omega, by go_num, HR.out⟩, by simp [intOf]; omega⟩
        · have HR := Lib.hid r6
          clear r6
          go_wp2
          exact ⟨⟨i + 1, by omega, by go_num, HR.out⟩, by simp [intOf]; omega⟩
      | some d =>
        rw [hdv] at hd
        obtain ⟨bv, bd, Fd, hpv, hh, hdk, hnv, hFd⟩ := id hd
        rw [hpv] at q1
        have q2 := cell_at hh 0 rfl
        have hcl : d.disk.cache.length ≤ 1000000 := by have := (HS.out i).cl _ d hdv; omega
        have HP : Hid (∀ w', DiskPost wr bd (d.disk.crash (keepsFor kl i)) Fd w' → Half w b (B.cutgTo kl (i + 1)) F bs1 (i * 3) w') := fun w' hq => by
          have hdp := DevPost.disk hh hnv hFd hq NoF
          rw [← hpv] at hdp
          obtain ⟨Fx, g1, g2, g3⟩ := hdp
          have hkK : Keep (Fs1 (i * 3)) wr w' := g2.mono fun x _ hx => hx.resolve_right (fun h => h)
          have hl2 := hl.redev hkK g1 g3 (by rw [hn1]; omega) (fun e he => (Option.some.inj he) ▸ hl.ok.left _ d hdv)
          have hFF := hl.redev_F (w' := w') g3
          have e : (B.cutgTo kl i).crashAt kl i = (B.cutgTo kl i).setDev (i * 3) (some { d with disk := d.disk.crash (keepsFor kl i) }) := by unfold By.crashAt; rw [hdv]
          rw [By.cutgTo, e]
          refine half_of hl2 (by show i < (B.cutgTo kl i).n; rw [hn1]; exact hlt) (hk1.trans hkK (fun x hx hf => (hF1 x ((hl.hF x).2 (.inr (.inr ⟨_, hf⟩)))).resolve_right (by omega))) (fun x hx => ?_)
          rcases hFF x hx with hx | hx
          · exact hF1 x hx
          · exact .inr (Nat.le_trans hk1.size hx)
        by_cases hik : i < kl.length
        · obtain ⟨kb, ko, a, c, rfl, hcell, hbools, hblk⟩ := HK.out wr F1 hk1 hF1 i hik
          have HCR := Lib.hid (crash_any hdk (.slice a (keepsFor kl i).length c) (keepsFor kl i) hbools (fun a' n c' he hne hf => hblk a' n c' he hne ((hl.hF _).2 (.inr (.inr ⟨i * 3, (hFd _).2 (.inr hf)⟩)))) hcl)
          clear hl hk1 hF1 hd hdv hp hn1 hh hdk hnv hFd hbools hblk hpv hcl
          go_wp2_with (go_at_call 39; go_must (refine HCR.out.mono ?_); rintro e w' ⟨v, rfl, rfl, hv⟩; rcases HP.out _ hv with ⟨r1, r2⟩ | ⟨bv2, v0, r1, r2, r3, r4, r5, r6⟩)
          all_goals first | exact ⟨⟨i + 1, by omega, by go_num, by assumption⟩, by simp [intOf]; omega⟩ | (go_wp2; exact ⟨⟨i + 1, by omega, by go_num, by assumption⟩, by simp [intOf]; omega⟩)
        · have e : keepsFor kl i = [] := by unfold keepsFor; rw [List.getElem?_eq_none (by omega)]
          have HCR := Lib.hid (crash_any hdk (.slice none 0 0) [] (BoolsAt.nil _) (fun a' n c' he => by simp at he) hcl)
          rw [e] at HP
          clear hl hk1 hF1 hd hdv hp hn1 hh hdk hnv hFd hpv hcl e
          go_wp2_with (go_at_call 39; go_must (refine HCR.out.mono ?_); rintro e w' ⟨v, rfl, rfl, hv⟩; rcases HP.out _ hv with ⟨r1, r2⟩ | ⟨bv2, v0, r1, r2, r3, r4, r5, r6⟩)
          all_goals first | exact ⟨⟨i + 1, by omega, by go_num, by assumption⟩, by simp [intOf]; omega⟩ | (go_wp2; exact ⟨⟨i + 1, by omega, by go_num, by assumption⟩, by simp [intOf]; omega⟩)
    · obtain rfl : i = B.n := by omega
      obtain ⟨dd, tt, ⟨r1, r2⟩, r3, r4, r5, r6⟩ := HC.out _ hp
      have HR := Lib.hid r6
      clear hp r6
      go_wp2
      go_end0
      exact ⟨_, rfl, rfl, HR.out⟩

theorem cutg_any {W w : World} {b : Nat} {B : By} {F : Nat → Prop} (h : BayAt w b B F) (hFW : ∀ x, F x → W.heap.size ≤ x) (hWw : Keep (Old W) W w) {kv : Value} {kl : List (Value × List Bool)} (hk : KeepsAt W kv kl) (hs : B.Small 1000000) :
    Calls Try.prog 33 #[.pointer (some ⟨b, 0, none⟩), kv] w (Gives fun v w' => v = .tuple #[] ∧ BayPost w b (B.cutg kl) F w') := by
  obtain ⟨ka, kc, rfl, hkf, -⟩ := id hk
  refine cutg_core h hkf (fun wr F1 hk1 hF1 i hi => ?_) hs
  have hWwr : Keep (Old W) W wr := hWw.trans' (hk1.mono fun x _ hx => hFW x hx)
  obtain ⟨kb, ko, kcap, a, c, hkv, hcell, hbools, hblk⟩ := hk.get hWwr hi
  simp only [Value.slice.injEq, true_and] at hkv
  refine ⟨kb, ko, a, c, hkv.1, hcell, hbools, fun a' n c' he hne hf => ?_⟩
  have h1 := hblk a' n c' he hne
  rcases hF1 _ hf with hx | hx
  · have := hFW _ hx; omega
  · have := hWw.size; omega
end Go.Proofs.Ytghnbbpoaeheaaa

/- BayAway, as plain data: a disk that is pulled and pushed is back behind a Cut with what lasts. -/
namespace Go.Proofs.Ytghnbbpoaeheaaa

/-- A bay of two slots whose first disk has fl for good. -/
structure Away (fl : List Int) (B : By) : Prop where
  n : B.n = 2
  calm : B.Calm
  d0 : ∃ D, B.dev 0 = some ⟨D, false, 0⟩ ∧ D.failed = false ∧ D.las.flatten = fl
  d1 : B.dev 1 = none
  d2 : B.dev 2 = none
  d5 : B.dev 5 = none

theorem is0 {B : By} (h : B.n = 2) : B.is 0 := is_two h (.inl rfl)
theorem away_image {fl : List Int} {B : By} (h : Away fl B) : B.image 0 = fl ∧ B.tcode 0 = 0 ∧ B.has 0 = true := by
  obtain ⟨D, h1, h2, h3⟩ := h.d0
  have hi : B.in 0 = some ⟨D, false, 0⟩ := by unfold By.in; rw [if_pos (is0 h.n)]; exact h1
  refine ⟨?_, ?_, ?_⟩
  · unfold By.image; rw [hi]; simp only [Dk.image, h2]; simpa using h3
  · unfold By.tcode; rw [if_pos (is0 h.n), show (0 : Int).toNat * 3 = 0 from rfl, h1]
  · unfold By.has; rw [hi]; simp [h2]
theorem away_op {fl fl' : List Int} {B : By} (h : Away fl B) (ci : Nat) (g : Dk → Dk) (hf : ∀ D, (g D).failed = D.failed) (hg : ∀ D, D.failed = false → D.las.flatten = fl → (g D).las.flatten = fl') : Away fl' (B.op 0 ci g) := by
  obtain ⟨D, h1, h2, h3⟩ := h.d0
  have e : B.op 0 ci g = (B.tick ci).setDev 0 (some ⟨g D, false, 0⟩) := by
    rw [calm_op h.calm (is0 h.n) (e := ⟨D, false, 0⟩) h1]
    rfl
  rw [e]
  exact ⟨h.n, Calm.tick h.calm _ _ _, ⟨g D, by simp [By.setDev], by rw [hf]; exact h2, hg D h2 h3⟩, by simpa [By.setDev, put, By.tick] using h.d1, by simpa [By.setDev, put, By.tick] using h.d2, by simpa [By.setDev, put, By.tick] using h.d5⟩
theorem write_las (D : Dk) (a : Int) (b : List Int) : (D.write a b).las = D.las := by unfold Dk.write; split <;> rfl
theorem away_write {fl : List Int} {B : By} (h : Away fl B) (a : Int) (b : List Int) : Away fl (B.op 0 4 (fun D => D.write a b)) :=
  away_op h 4 _ (fun D => D.write_failed a b) (fun D _ hD => by rw [write_las]; exact hD)
theorem away_flush {fl : List Int} {B : By} (h : Away fl B) : ∃ fl', Away fl' (B.op 0 5 Dk.flush) := by
  obtain ⟨D, h1, h2, h3⟩ := h.d0
  have e : B.op 0 5 Dk.flush = (B.tick 5).setDev 0 (some ⟨D.flush, false, 0⟩) := by
    rw [calm_op h.calm (is0 h.n) (e := ⟨D, false, 0⟩) h1]
    rfl
  refine ⟨D.flush.las.flatten, ?_⟩
  rw [e]
  exact ⟨h.n, Calm.tick h.calm _ _ _, ⟨D.flush, by simp [By.setDev], by rw [D.flush_failed]; exact h2, rfl⟩, by simpa [By.setDev, put, By.tick] using h.d1, by simpa [By.setDev, put, By.tick] using h.d2, by simpa [By.setDev, put, By.tick] using h.d5⟩
theorem crash_nil (D : Dk) : D.crash [] = { D with cache := [] } := by
  unfold Dk.crash Dk.settle
  congr 1
  have : keepOf [] = fun _ => false := by funext i; simp [keepOf]
  rw [this]
  exact settled_none _ _ _

/-- What Pull, Push, Read, Push, Cut answer one behind the other. -/
theorem away_end {fl : List Int} {B : By} (h : Away fl B) (kl : List (Value × List Bool)) :
    (B.tcode 0 = 0 ∧ (B.pull 0).has 0 = false ∧ (B.pull 0).sectors 0 = 0) ∧
    ((B.pull 0).pushc 0 = 0 ∧ ((B.pull 0).push 0).opcode 0 (fun D => D.code 0) = 51) ∧
    ((((B.pull 0).push 0).op 0 3 id).has 0 = false ∧ (((B.pull 0).push 0).op 0 3 id).pushc 0 = 51) ∧
    (((((B.pull 0).push 0).op 0 3 id).push 0).cutg kl).tcode 0 = 0 ∧ (((((B.pull 0).push 0).op 0 3 id).push 0).cutg kl).image 0 = fl ∧ (((((B.pull 0).push 0).op 0 3 id).push 0).cutg kl).has 0 = true ∧ (((((B.pull 0).push 0).op 0 3 id).push 0).cutg kl).pending 0 = [] := by
  obtain ⟨D, h1, h2, h3⟩ := h.d0
  have hi : B.in 0 = some ⟨D, false, 0⟩ := by unfold By.in; rw [if_pos (is0 h.n)]; exact h1
  have z : (0 : Int).toNat * 3 = 0 := rfl
  obtain ⟨B1, e1⟩ : ∃ B1, B.pull 0 = B1 := ⟨_, rfl⟩
  have p1 : B1.n = 2 ∧ B1.Calm ∧ B1.dev 0 = none ∧ B1.dev 1 = some ⟨D.crash [], false, 0⟩ ∧ B1.dev 2 = none ∧ B1.dev 5 = none := by
    rw [← e1]
    unfold By.pull
    rw [hi]
    refine ⟨h.n, ⟨h.calm.trip, h.calm.dark⟩, ?_, ?_, ?_, ?_⟩ <;> simp [moved, aside, By.setDev, put, h.d2, h.d5]
  obtain ⟨n1, c1, a0, a1, a2, a5⟩ := p1
  have i1 : B1.in 0 = none := by unfold By.in; rw [if_pos (is0 n1)]; exact a0
  obtain ⟨B2, e2⟩ : ∃ B2, B1.push 0 = B2 := ⟨_, rfl⟩
  have pc1 : B1.pushc 0 = 0 := by unfold By.pushc By.takenAt; rw [if_pos (is0 n1), z, a1, a0, a2]; rfl
  have p2 : B2.n = 2 ∧ B2.Calm ∧ B2.dev 0 = none ∧ B2.dev 1 = none ∧ B2.dev 2 = some ⟨D.crash [], false, 0⟩ ∧ B2.dev 5 = none := by
    rw [← e2]
    unfold By.push
    rw [if_pos pc1]
    refine ⟨n1, ⟨c1.trip, c1.dark⟩, ?_, ?_, ?_, ?_⟩ <;> simp [moved, coming, a0, a1, a5]
  obtain ⟨n2, c2, b0, b1, b2, b5⟩ := p2
  have i2 : B2.in 0 = none := by unfold By.in; rw [if_pos (is0 n2)]; exact b0
  obtain ⟨B3, e3⟩ : ∃ B3, B2.op 0 3 id = B3 := ⟨_, rfl⟩
  have e3' : B3 = B2.tick 3 := by
    rw [← e3]
    unfold By.op
    rw [if_pos (is0 n2), c2.start, c2.dark, i2]
    rfl
  have p3 : B3.n = 2 ∧ B3.dev 0 = none ∧ B3.dev 1 = none ∧ B3.dev 2 = some ⟨D.crash [], false, 0⟩ ∧ B3.dev 5 = none := by rw [e3']; exact ⟨n2, b0, b1, b2, b5⟩
  obtain ⟨n3, d0, d1, d2, d5⟩ := p3
  have i3 : B3.in 0 = none := by unfold By.in; rw [if_pos (is0 n3)]; exact d0
  have pc3 : B3.pushc 0 = 51 := by unfold By.pushc; rw [if_pos (is0 n3), z, d1]
  have e4 : B3.push 0 = B3 := by unfold By.push; rw [pc3]; rfl
  have op2 : B2.opcode 0 (fun D => D.code 0) = 51 := by
    unfold By.opcode
    rw [if_pos (is0 n2), c2.start, c2.dark, i2]
    rfl
  -- behind the Cut
  have q : (B3.cutg kl).dev 0 = some ⟨D.crash [], false, 0⟩ ∧ (B3.cutg kl).n = 2 := by
    refine ⟨?_, (cutgTo_n B3 kl _).trans n3⟩
    show (B3.cutgTo kl B3.n).dev 0 = _
    rw [n3, By.cutgTo, By.cutgTo, By.cutgTo]
    have f1 : B3.crashAt kl 0 = B3 := by unfold By.crashAt; rw [d0]
    rw [f1]
    have f2 : (B3.comeAt 0).dev 0 = some ⟨D.crash [], false, 0⟩ ∧ (B3.comeAt 0).dev 5 = none := by
      unfold By.comeAt
      rw [show 0 * 3 + 2 = 2 from rfl, d2]
      constructor
      · simp [moved, comeq, d2]
      · simp [moved, comeq, d5]
    have f3 : ((B3.comeAt 0).crashAt kl 1).dev 5 = none ∧ ((B3.comeAt 0).crashAt kl 1).dev 0 = some ⟨D.crash [], false, 0⟩ := by
      unfold By.crashAt
      split
      · exact ⟨f2.2, f2.1⟩
      · exact ⟨by simpa [By.setDev, put] using f2.2, by simpa [By.setDev, put] using f2.1⟩
    unfold By.comeAt at *
    rw [show 1 * 3 + 2 = 5 from rfl, f3.1]
    exact f3.2
  obtain ⟨q1, q2⟩ := q
  have iq : (B3.cutg kl).in 0 = some ⟨D.crash [], false, 0⟩ := by unfold By.in; rw [if_pos (is0 q2)]; exact q1
  rw [e1, e2, e3, e4]
  refine ⟨⟨(away_image h).2.1, ?_, ?_⟩, ⟨pc1, op2⟩, ⟨?_, pc3⟩, ?_, ?_, ?_, ?_⟩
  · unfold By.has; rw [i1]
  · unfold By.sectors; rw [i1]
  · unfold By.has; rw [i3]
  · unfold By.tcode; rw [if_pos (is0 q2), z, q1]
  · unfold By.image
    rw [iq]
    simp only [crash_nil, Dk.image, h2]
    simpa using h3
  · unfold By.has; rw [iq]; simp [crash_nil, h2]
  · unfold By.pending; rw [iq]; simp [crash_nil, Dk.pending]
end Go.Proofs.Ytghnbbpoaeheaaa

/- BayCuts, as plain data: behind a cut each sector is as it was, or as a write of the cache has it. -/
namespace Go.Proofs.Ytghnbbpoaeheaaa

theorem settled_sector (keep : Nat → Bool) (k : Nat) : ∀ (c : List (Nat × List Int)) (i : Nat) (las : List (List Int)), (settled keep i c las)[k]? = las[k]? ∨ ∃ e ∈ c, e.1 = k ∧ (settled keep i c las)[k]? = some e.2
  | [], _, _ => .inl rfl
  | e :: r, i, las => by
    rw [settled]
    rcases settled_sector keep k r (i + 1) (if keep i then las.set e.1 e.2 else las) with h | ⟨x, hx, h1, h2⟩
    · by_cases hk : keep i = true
      · rw [if_pos hk] at h ⊢
        by_cases he : e.1 = k
        · by_cases hl : k < las.length
          · refine .inr ⟨e, List.mem_cons_self, he, ?_⟩
            rw [h, he]
            simp [hl]
          · refine .inl ?_
            rw [h, he]
            simp [List.getElem?_eq_none (show las.length ≤ k by omega), List.getElem?_eq_none (show (las.set k e.2).length ≤ k by simp; omega)]
        · refine .inl ?_
          rw [h, List.getElem?_set_ne he]
      · rw [if_neg hk] at h ⊢
        exact .inl h
    · exact .inr ⟨x, List.mem_cons_of_mem _ hx, h1, h2⟩

/-- Where a write of the script may have left sector k of the cut disk. -/
def Wrote (ops : List OpD) (at_ : Int) (i k : Nat) (bl : List Int) : Prop := ∃ j d, j < i ∧ ops[j]? = some d ∧ d.kind = 2 ∧ d.n = (k : Int) ∧ d.bl = bl ∧ at_ < (j : Int)
/-- A bay of one slot behind i operations of BayCuts' loop. -/
structure Cuts (ops : List OpD) (at_ : Int) (m i : Nat) (B : By) : Prop where
  n : B.n = 1
  calm : B.Calm
  d0 : ∃ D, B.dev 0 = some ⟨D, false, 0⟩ ∧ D.failed = false ∧ D.las.length = m ∧ (∀ s ∈ D.las, s.length = 128) ∧ (∀ e ∈ D.cache, e.2.length = 128) ∧
    ∀ e ∈ D.cache, ∃ j d, j < i ∧ ops[j]? = some d ∧ d.kind = 2 ∧ d.n = (e.1 : Int) ∧ d.bl = e.2 ∧ (at_ < (i : Int) → at_ < (j : Int))
  d2 : B.dev 2 = none

theorem is01 {B : By} (h : B.n = 1) : B.is 0 := ⟨by omega, by rw [h]; decide⟩
theorem cuts_op {ops : List OpD} {at_ : Int} {m i i' : Nat} {B : By} (h : Cuts ops at_ m i B) (ci : Nat) (g : Dk → Dk)
    (hg : ∀ D : Dk, D.failed = false → D.las.length = m → (∀ s ∈ D.las, s.length = 128) → (∀ e ∈ D.cache, e.2.length = 128) → (∀ e ∈ D.cache, ∃ j d, j < i ∧ ops[j]? = some d ∧ d.kind = 2 ∧ d.n = (e.1 : Int) ∧ d.bl = e.2 ∧ (at_ < (i : Int) → at_ < (j : Int))) →
      (g D).failed = false ∧ (g D).las.length = m ∧ (∀ s ∈ (g D).las, s.length = 128) ∧ (∀ e ∈ (g D).cache, e.2.length = 128) ∧ (∀ e ∈ (g D).cache, ∃ j d, j < i' ∧ ops[j]? = some d ∧ d.kind = 2 ∧ d.n = (e.1 : Int) ∧ d.bl = e.2 ∧ (at_ < (i' : Int) → at_ < (j : Int)))) : Cuts ops at_ m i' (B.op 0 ci g) := by
  obtain ⟨D, h1, h2, h3, h4, h5, h6⟩ := h.d0
  have e : B.op 0 ci g = (B.tick ci).setDev 0 (some ⟨g D, false, 0⟩) := by
    rw [calm_op h.calm (is01 h.n) (e := ⟨D, false, 0⟩) h1]
    rfl
  rw [e]
  exact ⟨h.n, Calm.tick h.calm _ _ _, ⟨g D, by simp [By.setDev], hg D h2 h3 h4 h5 h6⟩, by simpa [By.setDev, put, By.tick] using h.d2⟩
theorem write_in (D : Dk) (a : Int) (b : List Int) (e : Nat × List Int) (he : e ∈ (D.write a b).cache) : e ∈ D.cache ∨ (e.2.length = 128 ∧ (e.1 : Int) = a ∧ e.2 = b) := by
  unfold Dk.write at he
  split at he
  · rename_i hc
    have hc0 : D.code a = 0 ∧ b.length = 128 := by
      unfold Dk.wcode at hc
      split at hc
      · split at hc
        · rename_i x c; exact ⟨x, c⟩
        · cases hc
      · rename_i x; exact absurd hc x
    obtain ⟨-, k1, -⟩ := Dk.code_zero hc0.1
    rcases List.mem_append.1 he with he | he
    · exact .inl he
    · obtain rfl : e = (a.toNat, b) := by simpa using he
      exact .inr ⟨hc0.2, by simp only; omega, rfl⟩
  · exact .inl he
/-- A write, where the flush is not at its place: or before the flush at its place. -/
theorem cuts_write {ops : List OpD} {at_ : Int} {m i : Nat} {B : By} (h : Cuts ops at_ m i B) {d : OpD} (hd : ops[i]? = some d) (hk : d.kind = 2) (hat : at_ ≠ i) : Cuts ops at_ m (i + 1) (B.op 0 4 (fun D => D.write d.n d.bl)) :=
  cuts_op h 4 _ fun D h2 h3 h4 h5 h6 => by
    refine ⟨(D.write_failed _ _).trans h2, by rw [write_las]; exact h3, by rw [write_las]; exact h4, fun e he => ?_, fun e he => ?_⟩
    · rcases write_in D _ _ e he with he | he
      · exact h5 e he
      · exact he.1
    · rcases write_in D _ _ e he with he | ⟨_, h7, h8⟩
      · obtain ⟨j, x, a1, a2, a3, a4, a5, a6⟩ := h6 e he
        exact ⟨j, x, by omega, a2, a3, a4, a5, fun hl => a6 (by omega)⟩
      · exact ⟨i, d, by omega, hd, hk, h7.symm, h8.symm, fun hl => by omega⟩
theorem cuts_write_as {ops : List OpD} {at_ : Int} {m i : Nat} {B : By} (h : Cuts ops at_ m i B) (a : Int) (b : List Int) :
    ∃ D, (B.op 0 4 (fun D => D.write a b)).dev 0 = some ⟨D, false, 0⟩ ∧ D.failed = false ∧ D.las.length = m ∧ (∀ s ∈ D.las, s.length = 128) ∧ (∀ e ∈ D.cache, e.2.length = 128) ∧ (B.op 0 4 (fun D => D.write a b)).n = 1 ∧ (B.op 0 4 (fun D => D.write a b)).Calm ∧ (B.op 0 4 (fun D => D.write a b)).dev 2 = none := by
  obtain ⟨D, h1, h2, h3, h4, h5, h6⟩ := h.d0
  have e : B.op 0 4 (fun D => D.write a b) = (B.tick 4).setDev 0 (some ⟨D.write a b, false, 0⟩) := by
    rw [calm_op h.calm (is01 h.n) (e := ⟨D, false, 0⟩) h1]
    rfl
  rw [e]
  refine ⟨D.write a b, by simp [By.setDev], (D.write_failed _ _).trans h2, by rw [write_las]; exact h3, by rw [write_las]; exact h4, fun e he => ?_, h.n, Calm.tick h.calm _ _ _, by simpa [By.setDev, put, By.tick] using h.d2⟩
  rcases write_in D _ _ e he with he | he
  · exact h5 e he
  · exact he.1
/-- A bay of one slot with a disk of m sectors: what a flush makes of it. -/
theorem flush_one {ops : List OpD} {at_ : Int} {m i : Nat} {B : By} (hn : B.n = 1) (hc : B.Calm) (h2 : B.dev 2 = none) {D : Dk} (h1 : B.dev 0 = some ⟨D, false, 0⟩) (hf : D.failed = false) (hl : D.las.length = m) (hs : ∀ s ∈ D.las, s.length = 128) (he : ∀ e ∈ D.cache, e.2.length = 128) : Cuts ops at_ m i (B.op 0 5 Dk.flush) := by
  have e : B.op 0 5 Dk.flush = (B.tick 5).setDev 0 (some ⟨D.flush, false, 0⟩) := by
    rw [calm_op hc (is01 hn) (e := ⟨D, false, 0⟩) h1]
    rfl
  have ef : D.flush = D.settle (fun _ => true) := by unfold Dk.flush; rw [hf]; rfl
  rw [e]
  exact ⟨hn, Calm.tick hc _ _ _, ⟨D.flush, by simp [By.setDev], by rw [D.flush_failed]; exact hf, by rw [ef]; show (settled _ _ _ _).length = m; rw [length_settled]; exact hl, by rw [ef]; exact sec_settled _ _ _ _ he hs, by rw [ef]; intro e he; exact absurd he (by simp [Dk.settle]), by rw [ef]; intro e he; exact absurd he (by simp [Dk.settle])⟩, by simpa [By.setDev, put, By.tick] using h2⟩
theorem cuts_skip {ops : List OpD} {at_ : Int} {m i : Nat} {B : By} (h : Cuts ops at_ m i B) (hat : at_ ≠ i) : Cuts ops at_ m (i + 1) B := by
  obtain ⟨D, h1, h2, h3, h4, h5, h6⟩ := h.d0
  refine ⟨h.n, h.calm, ⟨D, h1, h2, h3, h4, h5, fun e he => ?_⟩, h.d2⟩
  obtain ⟨j, x, a1, a2, a3, a4, a5, a6⟩ := h6 e he
  exact ⟨j, x, by omega, a2, a3, a4, a5, fun hl => a6 (by omega)⟩
theorem cuts_flush {ops : List OpD} {at_ : Int} {m i i' : Nat} {B : By} (h : Cuts ops at_ m i B) : Cuts ops at_ m i' (B.op 0 5 Dk.flush) := by
  obtain ⟨D, h1, h2, h3, h4, h5, h6⟩ := h.d0
  exact flush_one h.n h.calm h.d2 h1 h2 h3 h4 h5
theorem cuts_write_flush {ops : List OpD} {at_ : Int} {m i i' : Nat} {B : By} (h : Cuts ops at_ m i B) (a : Int) (b : List Int) : Cuts ops at_ m i' ((B.op 0 4 (fun D => D.write a b)).op 0 5 Dk.flush) := by
  obtain ⟨D, h1, h2, h3, h4, h5, hn, hc, hd⟩ := cuts_write_as h a b
  exact flush_one hn hc hd h1 h2 h3 h4 h5

theorem flatten_sector : ∀ (l : List (List Int)) (k : Nat), (∀ s ∈ l, s.length = 128) → k < l.length → (l.flatten.drop (128 * k)).take 128 = l.getD k []
  | [], k, _, h => by simp at h
  | x :: r, 0, hs, _ => by
    have : x.length = 128 := hs x List.mem_cons_self
    simp [List.flatten_cons, ← this]
  | x :: r, k + 1, hs, h => by
    have hx : x.length = 128 := hs x List.mem_cons_self
    have := flatten_sector r k (fun s h => hs s (List.mem_cons_of_mem _ h)) (by simpa using h)
    rw [List.flatten_cons, show 128 * (k + 1) = x.length + 128 * k by omega, List.drop_append, List.drop_of_length_le (by omega), List.nil_append, Nat.add_sub_cancel_left, this]
    simp
theorem flatten_length : ∀ (l : List (List Int)), (∀ s ∈ l, s.length = 128) → l.flatten.length = 128 * l.length
  | [], _ => rfl
  | x :: r, hs => by
    rw [List.flatten_cons, List.length_append, flatten_length r (fun s h => hs s (List.mem_cons_of_mem _ h)), hs x List.mem_cons_self, List.length_cons]; omega
def sector (l : List Int) (k : Nat) : List Int := (l.drop (128 * k)).take 128

/-- A cut of a bay of one slot without a disk that is coming. -/
theorem cutg_one {B : By} (hn : B.n = 1) (h2 : B.dev 2 = none) {D : Dk} (h1 : B.dev 0 = some ⟨D, false, 0⟩) (kl : List (Value × List Bool)) :
    (B.cutg kl).n = 1 ∧ (B.cutg kl).dev 2 = none ∧ (B.cutg kl).dev 0 = some ⟨D.crash (keepsFor kl 0), false, 0⟩ := by
  have q : ((B.crashAt kl 0).dev 2 = none) ∧ (B.crashAt kl 0).dev 0 = some ⟨D.crash (keepsFor kl 0), false, 0⟩ := by
    unfold By.crashAt
    rw [h1]
    exact ⟨by simpa [By.setDev, put] using h2, by simp [By.setDev]⟩
  have e : B.cutgTo kl 1 = B.crashAt kl 0 := by
    rw [By.cutgTo, By.cutgTo]
    unfold By.comeAt
    rw [show 0 * 3 + 2 = 2 from rfl, q.1]
  refine ⟨(cutgTo_n B kl _).trans hn, ?_, ?_⟩
  · show (B.cutgTo kl B.n).dev 2 = none
    rw [hn, e]; exact q.1
  · show (B.cutgTo kl B.n).dev 0 = _
    rw [hn, e]; exact q.2
theorem one_image {B : By} (hn : B.n = 1) {D : Dk} (h1 : B.dev 0 = some ⟨D, false, 0⟩) (hf : D.failed = false) : B.image 0 = D.las.flatten ∧ B.tcode 0 = 0 ∧ B.pending 0 = D.pending := by
  have hi : B.in 0 = some ⟨D, false, 0⟩ := by unfold By.in; rw [if_pos (is01 hn)]; exact h1
  refine ⟨?_, ?_, ?_⟩
  · unfold By.image; rw [hi]; simp only [Dk.image, hf]; rfl
  · unfold By.tcode; rw [if_pos (is01 hn), show (0 : Int).toNat * 3 = 0 from rfl, h1]
  · unfold By.pending; rw [hi]

/-- What the two cuts answer: the images la (ahead) and lw (was, now); each sector of lw is la's or a write's. -/
structure CutEnd (ops : List OpD) (at_ : Int) (m : Nat) (la lw : List Int) : Prop where
  hla : la.length = 128 * m
  hlw : lw.length = 128 * m
  sec : ∀ k, k < m → sector lw k = sector la k ∨ (at_ < ops.length ∧ Wrote ops at_ ops.length k (sector lw k))

theorem cuts_end {ops : List OpD} {at_ : Int} {m : Nat} {B : By} (h : Cuts ops at_ m ops.length B) (hat : at_ < ops.length ∨ ∀ D, B.dev 0 = some ⟨D, false, 0⟩ → D.cache = []) (k1 k2 : List (Value × List Bool)) :
    ∃ la lw, CutEnd ops at_ m la lw ∧ (B.image 0 = la ∧ B.tcode 0 = 0) ∧ ((B.cutg k1).image 0 = lw ∧ (B.cutg k1).tcode 0 = 0) ∧ (((B.cutg k1).cutg k2).image 0 = lw ∧ ((B.cutg k1).cutg k2).tcode 0 = 0 ∧ ((B.cutg k1).cutg k2).pending 0 = []) := by
  obtain ⟨D, h1, h2, h3, h4, h5, h6⟩ := h.d0
  obtain ⟨n1, c1, e1⟩ := cutg_one h.n h.d2 h1 k1
  obtain ⟨n2, c2, e2⟩ := cutg_one n1 c1 e1 k2
  have q : (D.crash (keepsFor k1 0)).crash (keepsFor k2 0) = D.crash (keepsFor k1 0) := rfl
  rw [q] at e2
  have i0 := one_image h.n h1 h2
  have i1 := one_image n1 e1 (by exact h2)
  have i2 := one_image n2 e2 (by exact h2)
  have hs : ∀ s ∈ (D.crash (keepsFor k1 0)).las, s.length = 128 := sec_settled _ _ _ _ h5 h4
  have hl : (D.crash (keepsFor k1 0)).las.length = m := (length_settled _ _ _ _).trans h3
  refine ⟨_, _, ⟨?_, ?_, fun k hk => ?_⟩, ⟨i0.1, i0.2.1⟩, ⟨i1.1, i1.2.1⟩, ⟨i2.1, i2.2.1, i2.2.2⟩⟩
  · rw [flatten_length _ h4, h3]
  · rw [flatten_length _ hs, hl]
  · unfold sector
    rw [flatten_sector _ k hs (by omega), flatten_sector _ k h4 (by omega)]
    rcases settled_sector (keepOf (keepsFor k1 0)) k D.cache 0 D.las with hx | ⟨e, he, hx1, hx2⟩
    · refine .inl ?_
      rw [List.getD_eq_getElem?_getD, List.getD_eq_getElem?_getD]
      exact congrArg (fun o => o.getD []) hx
    · refine .inr ?_
      have hat' : at_ < ops.length := by
        rcases hat with hat | hat
        · exact hat
        · rw [hat D h1] at he; cases he
      obtain ⟨j, x, a1, a2, a3, a4, a5, a6⟩ := h6 e he
      refine ⟨hat', j, x, a1, a2, a3, by rw [a4, hx1], ?_, a6 hat'⟩
      rw [a5, List.getD_eq_getElem?_getD]
      exact (congrArg (fun o => o.getD []) hx2).symm
end Go.Proofs.Ytghnbbpoaeheaaa
