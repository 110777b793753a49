/- The bay's functions, walked: operate. -/
import Derived.Test.YtghnbbpoaeheaaaDL5
namespace Go.Proofs.Ytghnbbpoaeheaaa
open Go.RowKit

def By.start (B : By) : By := if B.trip = 0 then { B with dark := true, trip := -1 } else B
def By.tick (B : By) (ci : Nat) : By :=
  { B with trip := if 0 < B.trip then B.trip - 1 else B.trip, cr := if ci = 3 then B.cr + 1 else B.cr, cw := if ci = 4 then B.cw + 1 else B.cw, cf := if ci = 5 then B.cf + 1 else B.cf }
/-- The disk that an operation comes to. -/
def By.reach (B : By) (k : Int) : Option Dev := if B.is k then (if B.start.dark then none else (B.in k).map Dev.use) else none
def By.opcode (B : By) (k : Int) (c : Dk → Int) : Int :=
  if B.is k then (if B.start.dark then 50 else match B.in k with | none => 51 | some d => c d.use.disk) else 1
def By.op (B : By) (k : Int) (ci : Nat) (g : Dk → Dk) : By :=
  if B.is k then (if B.start.dark then B.start else match B.in k with | none => B.tick ci | some d => (B.tick ci).setDev (k.toNat * 3) (some { d.use with disk := g d.use.disk })) else B

/-- What an operation leaves. E: what it leaves beside the bay, of the disk that it came to. -/
def OpPost (w : World) (b : Nat) (B : By) (k : Int) (ci : Nat) (g : Dk → Dk) (F G : Nat → Prop) (E : Dk → World → World → Prop) (w' : World) : Prop :=
  (∃ F', BayAt w' b (B.op k ci g) F' ∧ Keep (fun x => F x ∨ G x) w w' ∧ ∀ x, F' x → F x ∨ w.heap.size ≤ x) ∧
  match B.reach k with
  | none => Keep F w w'
  | some d => ∃ w1, w.heap.size ≤ w1.heap.size ∧ E d.disk w1 w'

theorem BayLies.redevG {w : World} {b : Nat} {B : By} {F : Nat → Prop} {bs : Nat} {ptr : Nat → Value} {Fs : Nat → Nat → Prop} (h : BayLies w b B F bs ptr Fs) {w' : World} {i : Nat} {d' : Option Dev} {F' G : Nat → Prop} (hG : ∀ x, F x → ¬ G x)
    (hk : Keep (fun x => Fs i x ∨ G x) w w') (hd : DevAt w' (ptr i) d' F') (hF' : ∀ x, F' x → Fs i x ∨ w.heap.size ≤ x)
    (hi : i < B.n * 3) (hl : ∀ d, d' = some d → 0 ≤ d.left ∧ d.left ≤ 9223372036854775807) :
    BayLies w' b (B.setDev i d') (fun x => x = b ∨ x = bs ∨ ∃ j, put Fs i F' j x) bs ptr (put Fs i F') := by
  have hGF : ∀ j x, Fs j x → ¬ G x := fun j x hx => hG x ((h.hF x).2 (.inr (.inr ⟨j, hx⟩)))
  have hFx : ∀ j x, j ≠ i → Fs j x → x < w.heap.size ∧ ¬ Fs i x := fun j x hj hx => ⟨(h.dev j).lt x hx, h.apart j i x hj hx⟩
  refine ⟨hk.at h.hb (not_or.2 ⟨h.ownb i, hG _ ((h.hF _).2 (.inl rfl))⟩), hk.at h.hs (not_or.2 ⟨h.owns i, hG _ ((h.hF _).2 (.inr (.inl rfl)))⟩), fun j => ?_, fun a c x hac ha hc => ?_, fun j => ?_, fun j => ?_, fun x => Iff.rfl, ⟨h.ok.pos, h.ok.le, fun j hj => ?_, fun j d hd' => ?_, h.ok.trip⟩⟩
  · by_cases hj : j = i
    · subst hj; simpa [By.setDev] using hd
    · simp only [By.setDev, put_other _ _ hj]
      exact (h.dev j).keep hk (fun x hx => not_or.2 ⟨h.apart j i x hj hx, hGF j x hx⟩)
  · by_cases h1 : a = i
    · subst h1
      have h2 : c ≠ a := Ne.symm hac
      rw [put_same] at ha
      rw [put_other _ _ h2] at hc
      obtain ⟨hx1, hx2⟩ := hFx c x h2 hc
      rcases hF' x ha with hx | hx
      · exact hx2 hx
      · omega
    · rw [put_other _ _ h1] at ha
      by_cases h2 : c = i
      · subst h2
        rw [put_same] at hc
        obtain ⟨hx1, hx2⟩ := hFx a x h1 ha
        rcases hF' x hc with hx | hx
        · exact hx2 hx
        · omega
      · rw [put_other _ _ h2] at hc
        exact h.apart a c x hac ha hc
  · by_cases hj : j = i
    · subst hj; rw [put_same]; intro hx
      rcases hF' _ hx with hx | hx
      · exact h.ownb _ hx
      · have := lt_of_heap h.hb; omega
    · rw [put_other _ _ hj]; exact h.ownb j
  · by_cases hj : j = i
    · subst hj; rw [put_same]; intro hx
      rcases hF' _ hx with hx | hx
      · exact h.owns _ hx
      · have := lt_of_heap h.hs; omega
    · rw [put_other _ _ hj]; exact h.owns j
  · have : j ≠ i := by simp only [By.setDev] at hj; omega
    simp only [By.setDev, put_other _ _ this]; exact h.ok.out j hj
  · by_cases hj : j = i
    · subst hj; simp [By.setDev] at hd'; exact hl d hd'
    · simp only [By.setDev, put_other _ _ hj] at hd'; exact h.ok.left j d hd'

theorem count_88 (b : Nat) (w : World) : Calls Try.prog 88 #[.pointer (some ⟨b, 3, none⟩)] w fun e w' => e = .returned (.pointer (some ⟨b, 4, none⟩)) ∧ w = w' := by
  go_enter Try.func88, Try.ntmps88
  go_wp2
  go_ret
  exact ⟨rfl, rfl⟩
theorem count_90 (b : Nat) (w : World) : Calls Try.prog 90 #[.pointer (some ⟨b, 3, none⟩)] w fun e w' => e = .returned (.pointer (some ⟨b, 5, none⟩)) ∧ w = w' := by
  go_enter Try.func90, Try.ntmps90
  go_wp2
  go_ret
  exact ⟨rfl, rfl⟩
theorem count_94 (b : Nat) (w : World) : Calls Try.prog 94 #[.pointer (some ⟨b, 3, none⟩)] w fun e w' => e = .returned (.pointer (some ⟨b, 3, none⟩)) ∧ w = w' := by
  go_enter Try.func94, Try.ntmps94
  go_wp2
  go_ret
  exact ⟨rfl, rfl⟩
theorem Dev.use_left {d : Dev} (h : 0 ≤ d.left ∧ d.left ≤ 9223372036854775807) : 0 ≤ d.use.left ∧ d.use.left ≤ 9223372036854775807 := by
  unfold Dev.use
  split
  · split
    · exact h
    · exact ⟨by show 0 ≤ d.left - 1; omega, by show d.left - 1 ≤ _; omega⟩
  · exact h
theorem Dev.use_cache (d : Dev) : d.use.disk.cache.length ≤ d.disk.cache.length := by
  unfold Dev.use
  split
  · split
    · simp [Dk.fail]
    · exact Nat.le_refl _
  · exact Nat.le_refl _

theorem tick_lies {w : World} {b : Nat} {B : By} {F : Nat → Prop} {bs : Nat} {ptr : Nat → Value} {Fs : Nat → Nat → Prop} (h : BayLies w b B F bs ptr Fs) (ci : Nat) {w' : World} (hk : Keep (· = b) w w') (hn0 : ¬ B.trip = 0)
    (hb : w'.heap[b]? = some (.cells #[.slice (some ⟨bs, 0, none⟩) B.n B.n, .bool B.dark, .int .i64 (B.tick ci).trip, .int .i64 (B.tick ci).cr, .int .i64 (B.tick ci).cw, .int .i64 (B.tick ci).cf] 130 (0, 0))) : BayLies w' b (B.tick ci) F bs ptr Fs := by
  refine h.rehead hk rfl rfl ?_ hb
  have := h.ok.trip
  simp only [By.tick]
  split <;> omega

/-! ### operate, function 90 counts, function 91 does -/
section
variable {w : World} {b : Nat} {B : By} {F : Nat → Prop} {bs : Nat} {ptr : Nat → Value} {Fs : Nat → Nat → Prop}
set_option maxHeartbeats 1000000 in
theorem operate_none_91 (h : BayLies w b B F bs ptr Fs) (k : Int) (hk : ¬ B.is k) :
    Calls Try.prog 87 #[.pointer (some ⟨b, 0, none⟩), .int .i64 k, .func (.func 90) #[] #[], .func (.func 91) #[] #[]] w fun e w' => e = .returned (.int .u16 1) ∧ w = w' := by
  have HA := Lib.hid (at_any h k)
  have e : slotPtr bs B.n k = .pointer none := by unfold slotPtr; exact if_neg hk
  rw [e] at HA
  clear h hk e
  go_enter Try.func87, Try.ntmps87
  go_wp2_with (go_at_call 92; refine HA.out.mono ?_; rintro e w' ⟨rfl, rfl⟩)
  go_ret
  exact ⟨rfl, rfl⟩
set_option maxHeartbeats 1000000 in
theorem operate_trip_91 (h : BayLies w b B F bs ptr Fs) (k : Int) (hk : B.is k) (ht : B.trip = 0) :
    Calls Try.prog 87 #[.pointer (some ⟨b, 0, none⟩), .int .i64 k, .func (.func 90) #[] #[], .func (.func 91) #[] #[]] w fun e w' => e = .returned (.int .u16 50) ∧ w' = (w.setCell ⟨b, 1, none⟩ (.bool true)).setCell ⟨b, 2, none⟩ (.int .i64 (-1)) := by
  have HA := Lib.hid (at_any h k)
  have e : slotPtr bs B.n k = .pointer (some ⟨bs, k.toNat * 3, none⟩) := by unfold slotPtr; exact if_pos hk
  rw [e] at HA
  obtain ⟨_, c1, c2, _⟩ := h.head
  rw [ht] at c2
  have f1 := free_at h.hb 1
  have f2 := free_at h.hb 2
  generalize k.toNat * 3 = q at *
  clear h hk e ht
  go_enter Try.func87, Try.ntmps87
  go_wp2_with (go_at_call 92; refine HA.out.mono ?_; rintro e w' ⟨rfl, rfl⟩)
  go_ret
  exact ⟨rfl, rfl⟩
set_option maxHeartbeats 1000000 in
theorem operate_dark_91 (h : BayLies w b B F bs ptr Fs) (k : Int) (hk : B.is k) (ht : ¬ B.trip = 0) (hd : B.dark = true) :
    Calls Try.prog 87 #[.pointer (some ⟨b, 0, none⟩), .int .i64 k, .func (.func 90) #[] #[], .func (.func 91) #[] #[]] w fun e w' => e = .returned (.int .u16 50) ∧ w = w' := by
  have HA := Lib.hid (at_any h k)
  have e : slotPtr bs B.n k = .pointer (some ⟨bs, k.toNat * 3, none⟩) := by unfold slotPtr; exact if_pos hk
  rw [e] at HA
  obtain ⟨_, c1, c2, _⟩ := h.head
  rw [hd] at c1
  have hne : (B.trip == 0) = false := by simpa using ht
  generalize B.trip = t at *
  generalize k.toNat * 3 = q at *
  clear h hk e ht hd
  go_enter Try.func87, Try.ntmps87
  go_wp2_with (go_at_call 92; refine HA.out.mono ?_; rintro e w' ⟨rfl, rfl⟩)
  go_ret
  exact ⟨rfl, rfl⟩

set_option maxHeartbeats 2000000 in
/-- From the counting on. -/
theorem operate_on_91 (h : BayLies w b B F bs ptr Fs) (k : Int) (hk : B.is k) (ht : ¬ B.trip = 0) (hd : B.dark = false) (hcnt : 0 ≤ B.cf ∧ B.cf ≤ 1000000) (hcl : ∀ j d, B.dev j = some d → d.disk.cache.length ≤ 1000000)
    (c : Dk → Int) (g : Dk → Dk) (G : Nat → Prop) (hG : ∀ x, F x → ¬ G x) (E : Dk → World → World → Prop)
    (hdo : ∀ w1 v d F1, Keep F w w1 → (∀ x, F1 x → F x ∨ w.heap.size ≤ x) → DevAt w1 v (some d) F1 → d.disk.cache.length ≤ 1000000 → Calls Try.prog 91 #[v] w1 (Gives (CodePost (c d.disk) fun w2 => DevPost w1 v { d with disk := g d.disk } F1 G w2 ∧ E d.disk w1 w2))) :
    Calls Try.prog 87 #[.pointer (some ⟨b, 0, none⟩), .int .i64 k, .func (.func 90) #[] #[], .func (.func 91) #[] #[]] w (Gives (CodePost (B.opcode k c) (OpPost w b B k 5 g F G E))) := by
  have hstart : B.start.dark = false := by unfold By.start; rw [if_neg ht]; exact hd
  have hopc : B.opcode k c = match B.in k with | none => 51 | some d => c d.use.disk := by unfold By.opcode; rw [if_pos hk, hstart]; rfl
  have hop : B.op k 5 g = match B.in k with | none => B.tick 5 | some d => (B.tick 5).setDev (k.toNat * 3) (some { d.use with disk := g d.use.disk }) := by unfold By.op; rw [if_pos hk, hstart]; rfl
  have hreach : B.reach k = (B.in k).map Dev.use := by unfold By.reach; rw [if_pos hk, hstart]; rfl
  have HA := Lib.hid (at_any h k)
  have HAe : slotPtr bs B.n k = .pointer (some ⟨bs, k.toNat * 3, none⟩) := by unfold slotPtr; exact if_pos hk
  rw [HAe] at HA
  obtain ⟨_, c1, c2, c3, c4, c5⟩ := h.head
  rw [hd] at c1
  have hne : (B.trip == 0) = false := by simpa using ht
  obtain ⟨ht1, ht2⟩ := h.ok.trip
  obtain ⟨hn1, hn2⟩ := hcnt
  have fr := fun i => free_at h.hb i
  have fr2 := fr 2
  have frc := fr 5
  clear fr
  -- the world behind the counting
  have key : ∀ w2, Keep (· = b) w w2 → BayLies w2 b (B.tick 5) F bs ptr Fs → (B.in k = none → Hid (Gives (CodePost (B.opcode k c) (OpPost w b B k 5 g F G E)) (.returned (.int .u16 51)) w2)) ∧
      ∀ d, B.in k = some d → Hid (Calls Try.prog 103 #[ptr (k.toNat * 3)] w2 fun e w3 => e = .returned (.tuple #[]) ∧ Hid (Calls Try.prog 91 #[ptr (k.toNat * 3)] w3 (fun e w4 => e = .returned (.int .u16 (c d.use.disk)) ∧ Hid (OpPost w b B k 5 g F G E w4)))) := by
    intro w2 hk2 hl2
    refine ⟨fun hin => ?_, fun d hin => ?_⟩
    · refine ⟨_, rfl, by rw [hopc, hin], ⟨F, ?_, hk2.mono fun x _ e => .inl ((h.hF x).2 (.inl e)), fun _ hx => .inl hx⟩, ?_⟩
      · rw [hop, hin]; exact ⟨bs, ptr, Fs, hl2⟩
      · rw [hreach, hin]; exact hk2.mono fun x _ e => (h.hF x).2 (.inl e)
    · have hdv : B.dev (k.toNat * 3) = some d := by unfold By.in at hin; rwa [if_pos hk] at hin
      have hi : k.toNat * 3 < B.n * 3 := by have := hk.1; have := hk.2; omega
      have hdev := hl2.dev (k.toNat * 3)
      have hdv2 : (B.tick 5).dev (k.toNat * 3) = some d := hdv
      rw [hdv2] at hdev
      have hleft := h.ok.left _ d hdv
      refine (use_any hdev (hcl _ d hdv) hleft).mono ?_
      rintro e w3 ⟨_, rfl, rfl, F3, hd3, hk3, hF3⟩
      refine ⟨rfl, ?_⟩
      have hk3' : Keep (Fs (k.toNat * 3)) w2 w3 := hk3.mono fun x _ hx => hx.resolve_right (fun h => h)
      have hFsF : ∀ x, Fs (k.toNat * 3) x → F x := fun x hx => (h.hF x).2 (.inr (.inr ⟨_, hx⟩))
      have hkw : Keep F w w3 := (hk2.mono (G := F) fun x _ e => (h.hF x).2 (.inl e)).trans hk3' fun x _ hx => hFsF x hx
      have hsz : w.heap.size ≤ w2.heap.size := hk2.size
      have hF3' : ∀ x, F3 x → F x ∨ w.heap.size ≤ x := fun x hx => (hF3 x hx).imp (hFsF x) (fun h => by omega)
      refine (hdo w3 (ptr (k.toNat * 3)) d.use F3 hkw hF3' hd3 (Nat.le_trans d.use_cache (hcl _ d hdv))).mono ?_
      rintro e w4 ⟨_, rfl, rfl, ⟨F4, hd4, hk4, hF4⟩, hE⟩
      have hsz3 : w2.heap.size ≤ w3.heap.size := hk3.size
      have hk24 : Keep (fun x => Fs (k.toNat * 3) x ∨ G x) w2 w4 := (hk3'.mono fun x _ hx => .inl hx).trans hk4 fun x hx h => by
        rcases h with h | h
        · rcases hF3 x h with h | h
          · exact .inl h
          · omega
        · exact .inr h
      have hF4' : ∀ x, F4 x → Fs (k.toNat * 3) x ∨ w2.heap.size ≤ x := fun x hx => by
        rcases hF4 x hx with h | h
        · exact hF3 x h
        · exact .inr (by omega)
      have hfin := hl2.redevG hG hk24 hd4 hF4' hi (fun d' e => by
        obtain rfl : ({ d.use with disk := g d.use.disk } : Dev) = d' := by simpa using e
        exact d.use_left hleft)
      refine ⟨rfl, ⟨fun x => x = b ∨ x = bs ∨ ∃ j, put Fs (k.toNat * 3) F4 j x, ?_, ?_, ?_⟩, ?_⟩
      · rw [hop, hin]; exact ⟨bs, ptr, _, hfin⟩
      · exact (hk2.mono (G := fun x => F x ∨ G x) fun x _ e => .inl ((h.hF x).2 (.inl e))).trans hk24 fun x _ hx => hx.imp (hFsF x) id
      · exact fun x hx => (hl2.redev_F (w' := w4) hF4' x hx).imp id (fun h => by omega)
      · rw [hreach, hin]; exact ⟨w3, by omega, hE⟩
  have tick2 : ∀ w', Keep (· = b) w w' → w'.heap[b]? = some (.cells #[.slice (some ⟨bs, 0, none⟩) B.n B.n, .bool B.dark, .int .i64 (B.tick 5).trip, .int .i64 (B.tick 5).cr, .int .i64 (B.tick 5).cw, .int .i64 (B.tick 5).cf] 130 (0, 0)) → BayLies w' b (B.tick 5) F bs ptr Fs := fun w' h1 h2 => tick_lies h 5 h1 ht h2
  by_cases hp : 0 < B.trip
  · skip
    have hkA : Keep (· = b) w ((w.setCell ⟨b, 2, none⟩ (.int .i64 (B.trip - 1))).setCell ⟨b, 5, none⟩ (.int .i64 (B.cf + 1))) := (Keep.setCell (F := (· = b)) w ⟨b, 2, none⟩ (.int .i64 (B.trip - 1)) rfl).trans' (Keep.setCell (F := (· = b)) _ ⟨b, 5, none⟩ (.int .i64 (B.cf + 1)) rfl)
    have hbA := heap_setCell_same _ b 5 _ _ (.int .i64 (B.cf + 1)) (heap_setCell_same w b 2 _ _ (.int .i64 (B.trip - 1)) h.hb)
    have hlA := tick2 _ hkA (by simpa [By.tick, hp] using hbA)
    obtain ⟨k1, k2⟩ := key _ hkA hlA
    have HT := Lib.hid (there_any hlA k)
    have hin : (B.tick 5).in k = B.in k := rfl
    rcases hlA.in_cases k with ⟨e1, e2, e3⟩ | ⟨d, e1, _, _, e3, e2, _⟩
    · rw [e2] at HT
      have e1' : B.in k = none := e1
      have K1 := k1 e1'
      have htc : (B.tick 5).tcode k = 51 := by
        have e4 : B.dev (k.toNat * 3) = none := by unfold By.in at e1'; rwa [if_pos hk] at e1'
        have e5 : B.tcode k = 51 := by unfold By.tcode; rw [if_pos hk, e4]
        exact e5
      rw [htc] at HT
      clear h hk HAe hdo key k1 k2 hlA hkA hbA tick2 hopc hop hreach hcl hin e1 e1' e2 e3 hstart htc hG ht
      generalize B.trip = t at *
      generalize B.cf = q1 at *
      generalize k.toNat * 3 = q at *
      go_enter Try.func87, Try.ntmps87
      go_wp2_with (first | (go_at_call 92; refine HA.out.mono ?_; rintro e w' ⟨rfl, rfl⟩) | (go_at_call 90; refine (count_90 b _).mono ?_; rintro e w' ⟨rfl, rfl⟩) | (go_at_call 80; go_must (refine HT.out.mono ?_); rintro e w' ⟨rfl, rfl⟩))
      go_ret
      exact K1.out
    · rw [e2, e3] at HT
      have e1' : B.in k = some d := e1
      have K2 := Lib.hid (k2 d e1')
      have HO : Hid (B.opcode k c = c d.use.disk) := by rw [hopc, e1']; exact rfl
      clear h hk HAe hdo key k1 k2 hlA hkA hbA tick2 hopc hop hreach hcl hin e1 e1' e2 e3 hstart hG ht
      generalize B.trip = t at *
      generalize B.cf = q1 at *
      generalize k.toNat * 3 = q at *
      generalize ptr q = vp at *
      generalize c d.use.disk = cc at *
      go_enter Try.func87, Try.ntmps87
      go_wp2_with (first | (go_at_call 92; refine HA.out.mono ?_; rintro e w' ⟨rfl, rfl⟩) | (go_at_call 90; refine (count_90 b _).mono ?_; rintro e w' ⟨rfl, rfl⟩) | (go_at_call 80; go_must (refine HT.out.mono ?_); rintro e w' ⟨rfl, rfl⟩) | (go_at_call 103; go_must (refine K2.out.out.mono ?_); rintro e w3 ⟨rfl, H3⟩) | (go_at_call 91; go_must (refine H3.out.mono ?_); rintro e w4 ⟨rfl, H4⟩))
      go_ret
      exact ⟨_, rfl, (by rw [HO.out]; exact rfl), H4.out⟩
  · skip
    have hkA : Keep (· = b) w (w.setCell ⟨b, 5, none⟩ (.int .i64 (B.cf + 1))) := Keep.setCell (F := (· = b)) w ⟨b, 5, none⟩ (.int .i64 (B.cf + 1)) rfl
    have hbA := heap_setCell_same w b 5 _ _ (.int .i64 (B.cf + 1)) h.hb
    have hlA := tick2 _ hkA (by simpa [By.tick, hp] using hbA)
    obtain ⟨k1, k2⟩ := key _ hkA hlA
    have HT := Lib.hid (there_any hlA k)
    have hin : (B.tick 5).in k = B.in k := rfl
    have hp2 : B.trip ≤ 0 := by omega
    rcases hlA.in_cases k with ⟨e1, e2, e3⟩ | ⟨d, e1, _, _, e3, e2, _⟩
    · rw [e2] at HT
      have e1' : B.in k = none := e1
      have K1 := k1 e1'
      have htc : (B.tick 5).tcode k = 51 := by
        have e4 : B.dev (k.toNat * 3) = none := by unfold By.in at e1'; rwa [if_pos hk] at e1'
        have e5 : B.tcode k = 51 := by unfold By.tcode; rw [if_pos hk, e4]
        exact e5
      rw [htc] at HT
      clear h hk HAe hdo key k1 k2 hlA hkA hbA tick2 hopc hop hreach hcl hin e1 e1' e2 e3 hstart htc hG ht
      generalize B.trip = t at *
      generalize B.cf = q1 at *
      generalize k.toNat * 3 = q at *
      go_enter Try.func87, Try.ntmps87
      go_wp2_with (first | (go_at_call 92; refine HA.out.mono ?_; rintro e w' ⟨rfl, rfl⟩) | (go_at_call 90; refine (count_90 b _).mono ?_; rintro e w' ⟨rfl, rfl⟩) | (go_at_call 80; go_must (refine HT.out.mono ?_); rintro e w' ⟨rfl, rfl⟩))
      go_ret
      exact K1.out
    · rw [e2, e3] at HT
      have e1' : B.in k = some d := e1
      have K2 := Lib.hid (k2 d e1')
      have HO : Hid (B.opcode k c = c d.use.disk) := by rw [hopc, e1']; exact rfl
      clear h hk HAe hdo key k1 k2 hlA hkA hbA tick2 hopc hop hreach hcl hin e1 e1' e2 e3 hstart hG ht
      generalize B.trip = t at *
      generalize B.cf = q1 at *
      generalize k.toNat * 3 = q at *
      generalize ptr q = vp at *
      generalize c d.use.disk = cc at *
      go_enter Try.func87, Try.ntmps87
      go_wp2_with (first | (go_at_call 92; refine HA.out.mono ?_; rintro e w' ⟨rfl, rfl⟩) | (go_at_call 90; refine (count_90 b _).mono ?_; rintro e w' ⟨rfl, rfl⟩) | (go_at_call 80; go_must (refine HT.out.mono ?_); rintro e w' ⟨rfl, rfl⟩) | (go_at_call 103; go_must (refine K2.out.out.mono ?_); rintro e w3 ⟨rfl, H3⟩) | (go_at_call 91; go_must (refine H3.out.mono ?_); rintro e w4 ⟨rfl, H4⟩))
      go_ret
      exact ⟨_, rfl, (by rw [HO.out]; exact rfl), H4.out⟩

theorem operate_any_91 (h : BayAt w b B F) (k : Int) (hcnt : 0 ≤ B.cf ∧ B.cf ≤ 1000000) (hcl : ∀ j d, B.dev j = some d → d.disk.cache.length ≤ 1000000)
    (c : Dk → Int) (g : Dk → Dk) (G : Nat → Prop) (hG : ∀ x, F x → ¬ G x) (E : Dk → World → World → Prop)
    (hdo : ∀ w1 v d F1, Keep F w w1 → (∀ x, F1 x → F x ∨ w.heap.size ≤ x) → DevAt w1 v (some d) F1 → d.disk.cache.length ≤ 1000000 → Calls Try.prog 91 #[v] w1 (Gives (CodePost (c d.disk) fun w2 => DevPost w1 v { d with disk := g d.disk } F1 G w2 ∧ E d.disk w1 w2))) :
    Calls Try.prog 87 #[.pointer (some ⟨b, 0, none⟩), .int .i64 k, .func (.func 90) #[] #[], .func (.func 91) #[] #[]] w (Gives (CodePost (B.opcode k c) (OpPost w b B k 5 g F G E))) := by
  obtain ⟨bs, ptr, Fs, h⟩ := h
  by_cases hk : B.is k
  · by_cases ht : B.trip = 0
    · have hs : B.start = { B with dark := true, trip := -1 } := by unfold By.start; rw [if_pos ht]
      refine (operate_trip_91 h k hk ht).mono ?_
      rintro e w' ⟨rfl, rfl⟩
      have hkA : Keep (· = b) w ((w.setCell ⟨b, 1, none⟩ (.bool true)).setCell ⟨b, 2, none⟩ (.int .i64 (-1))) := (Keep.setCell (F := (· = b)) w ⟨b, 1, none⟩ (.bool true) rfl).trans' (Keep.setCell (F := (· = b)) _ ⟨b, 2, none⟩ (.int .i64 (-1)) rfl)
      have hbA := heap_setCell_same _ b 2 _ _ (.int .i64 (-1)) (heap_setCell_same w b 1 _ _ (.bool true) h.hb)
      have hl : BayLies _ b B.start F bs ptr Fs := h.rehead (B' := B.start) hkA (by rw [hs]) (by rw [hs]) (by rw [hs]; exact ⟨by show (-1:Int) ≤ -1; decide, by show (-1:Int) ≤ 9223372036854775807; decide⟩) (by rw [hs]; simpa using hbA)
      refine ⟨_, rfl, by unfold By.opcode; rw [if_pos hk, hs]; exact rfl, ⟨F, ?_, hkA.mono fun x _ e => .inl ((h.hF x).2 (.inl e)), fun _ hx => .inl hx⟩, ?_⟩
      · have : B.op k 5 g = B.start := by unfold By.op; rw [if_pos hk, if_pos (by rw [hs])]
        rw [this]; exact ⟨bs, ptr, Fs, hl⟩
      · have : B.reach k = none := by unfold By.reach; rw [if_pos hk, if_pos (by rw [hs])]
        rw [this]; exact hkA.mono fun x _ e => (h.hF x).2 (.inl e)
    · have hs : B.start = B := by unfold By.start; rw [if_neg ht]
      cases hd : B.dark with
      | true =>
        refine (operate_dark_91 h k hk ht hd).mono ?_
        rintro e w' ⟨rfl, rfl⟩
        refine ⟨_, rfl, by unfold By.opcode; rw [if_pos hk, hs, if_pos hd], ⟨F, ?_, Keep.refl _ _, fun _ hx => .inl hx⟩, ?_⟩
        · have : B.op k 5 g = B := by unfold By.op; rw [if_pos hk, hs, if_pos hd]
          rw [this]; exact ⟨bs, ptr, Fs, h⟩
        · have : B.reach k = none := by unfold By.reach; rw [if_pos hk, hs, if_pos hd]
          rw [this]; exact Keep.refl _ _
      | false => exact operate_on_91 h k hk ht hd hcnt hcl c g G hG E hdo
  · refine (operate_none_91 h k hk).mono ?_
    rintro e w' ⟨rfl, rfl⟩
    refine ⟨_, rfl, by unfold By.opcode; rw [if_neg hk], ⟨F, ?_, Keep.refl _ _, fun _ hx => .inl hx⟩, ?_⟩
    · have : B.op k 5 g = B := by unfold By.op; rw [if_neg hk]
      rw [this]; exact ⟨bs, ptr, Fs, h⟩
    · have : B.reach k = none := by unfold By.reach; rw [if_neg hk]
      rw [this]; exact Keep.refl _ _
end
end Go.Proofs.Ytghnbbpoaeheaaa

/- The bay's functions, walked: operate, once more. -/
namespace Go.Proofs.Ytghnbbpoaeheaaa
open Go.RowKit

/-! ### operate, function 88 counts, function 89 does -/
section
variable {w : World} {b : Nat} {B : By} {F : Nat → Prop} {bs : Nat} {ptr : Nat → Value} {Fs : Nat → Nat → Prop}
set_option maxHeartbeats 1000000 in
theorem operate_none_89 (h : BayLies w b B F bs ptr Fs) (k : Int) (b1 b2 : Nat) (hk : ¬ B.is k) :
    Calls Try.prog 87 #[.pointer (some ⟨b, 0, none⟩), .int .i64 k, .func (.func 88) #[] #[], .func (.func 89) #[] #[.pointer (some ⟨b1, 0, none⟩), .pointer (some ⟨b2, 0, none⟩)]] w fun e w' => e = .returned (.int .u16 1) ∧ w = w' := by
  have HA := Lib.hid (at_any h k)
  have e : slotPtr bs B.n k = .pointer none := by unfold slotPtr; exact if_neg hk
  rw [e] at HA
  clear h hk e
  go_enter Try.func87, Try.ntmps87
  go_wp2_with (go_at_call 92; refine HA.out.mono ?_; rintro e w' ⟨rfl, rfl⟩)
  go_ret
  exact ⟨rfl, rfl⟩
set_option maxHeartbeats 1000000 in
theorem operate_trip_89 (h : BayLies w b B F bs ptr Fs) (k : Int) (b1 b2 : Nat) (hk : B.is k) (ht : B.trip = 0) :
    Calls Try.prog 87 #[.pointer (some ⟨b, 0, none⟩), .int .i64 k, .func (.func 88) #[] #[], .func (.func 89) #[] #[.pointer (some ⟨b1, 0, none⟩), .pointer (some ⟨b2, 0, none⟩)]] w fun e w' => e = .returned (.int .u16 50) ∧ w' = (w.setCell ⟨b, 1, none⟩ (.bool true)).setCell ⟨b, 2, none⟩ (.int .i64 (-1)) := by
  have HA := Lib.hid (at_any h k)
  have e : slotPtr bs B.n k = .pointer (some ⟨bs, k.toNat * 3, none⟩) := by unfold slotPtr; exact if_pos hk
  rw [e] at HA
  obtain ⟨_, c1, c2, _⟩ := h.head
  rw [ht] at c2
  have f1 := free_at h.hb 1
  have f2 := free_at h.hb 2
  generalize k.toNat * 3 = q at *
  clear h hk e ht
  go_enter Try.func87, Try.ntmps87
  go_wp2_with (go_at_call 92; refine HA.out.mono ?_; rintro e w' ⟨rfl, rfl⟩)
  go_ret
  exact ⟨rfl, rfl⟩
set_option maxHeartbeats 1000000 in
theorem operate_dark_89 (h : BayLies w b B F bs ptr Fs) (k : Int) (b1 b2 : Nat) (hk : B.is k) (ht : ¬ B.trip = 0) (hd : B.dark = true) :
    Calls Try.prog 87 #[.pointer (some ⟨b, 0, none⟩), .int .i64 k, .func (.func 88) #[] #[], .func (.func 89) #[] #[.pointer (some ⟨b1, 0, none⟩), .pointer (some ⟨b2, 0, none⟩)]] w fun e w' => e = .returned (.int .u16 50) ∧ w = w' := by
  have HA := Lib.hid (at_any h k)
  have e : slotPtr bs B.n k = .pointer (some ⟨bs, k.toNat * 3, none⟩) := by unfold slotPtr; exact if_pos hk
  rw [e] at HA
  obtain ⟨_, c1, c2, _⟩ := h.head
  rw [hd] at c1
  have hne : (B.trip == 0) = false := by simpa using ht
  generalize B.trip = t at *
  generalize k.toNat * 3 = q at *
  clear h hk e ht hd
  go_enter Try.func87, Try.ntmps87
  go_wp2_with (go_at_call 92; refine HA.out.mono ?_; rintro e w' ⟨rfl, rfl⟩)
  go_ret
  exact ⟨rfl, rfl⟩

set_option maxHeartbeats 2000000 in
/-- From the counting on. -/
theorem operate_on_89 (h : BayLies w b B F bs ptr Fs) (k : Int) (b1 b2 : Nat) (hk : B.is k) (ht : ¬ B.trip = 0) (hd : B.dark = false) (hcnt : 0 ≤ B.cw ∧ B.cw ≤ 1000000) (hcl : ∀ j d, B.dev j = some d → d.disk.cache.length ≤ 1000000)
    (c : Dk → Int) (g : Dk → Dk) (G : Nat → Prop) (hG : ∀ x, F x → ¬ G x) (E : Dk → World → World → Prop)
    (hdo : ∀ w1 v d F1, Keep F w w1 → (∀ x, F1 x → F x ∨ w.heap.size ≤ x) → DevAt w1 v (some d) F1 → d.disk.cache.length ≤ 1000000 → Calls Try.prog 89 #[v, .pointer (some ⟨b1, 0, none⟩), .pointer (some ⟨b2, 0, none⟩)] w1 (Gives (CodePost (c d.disk) fun w2 => DevPost w1 v { d with disk := g d.disk } F1 G w2 ∧ E d.disk w1 w2))) :
    Calls Try.prog 87 #[.pointer (some ⟨b, 0, none⟩), .int .i64 k, .func (.func 88) #[] #[], .func (.func 89) #[] #[.pointer (some ⟨b1, 0, none⟩), .pointer (some ⟨b2, 0, none⟩)]] w (Gives (CodePost (B.opcode k c) (OpPost w b B k 4 g F G E))) := by
  have hstart : B.start.dark = false := by unfold By.start; rw [if_neg ht]; exact hd
  have hopc : B.opcode k c = match B.in k with | none => 51 | some d => c d.use.disk := by unfold By.opcode; rw [if_pos hk, hstart]; rfl
  have hop : B.op k 4 g = match B.in k with | none => B.tick 4 | some d => (B.tick 4).setDev (k.toNat * 3) (some { d.use with disk := g d.use.disk }) := by unfold By.op; rw [if_pos hk, hstart]; rfl
  have hreach : B.reach k = (B.in k).map Dev.use := by unfold By.reach; rw [if_pos hk, hstart]; rfl
  have HA := Lib.hid (at_any h k)
  have HAe : slotPtr bs B.n k = .pointer (some ⟨bs, k.toNat * 3, none⟩) := by unfold slotPtr; exact if_pos hk
  rw [HAe] at HA
  obtain ⟨_, c1, c2, c3, c4, c5⟩ := h.head
  rw [hd] at c1
  have hne : (B.trip == 0) = false := by simpa using ht
  obtain ⟨ht1, ht2⟩ := h.ok.trip
  obtain ⟨hn1, hn2⟩ := hcnt
  have fr := fun i => free_at h.hb i
  have fr2 := fr 2
  have frc := fr 4
  clear fr
  -- the world behind the counting
  have key : ∀ w2, Keep (· = b) w w2 → BayLies w2 b (B.tick 4) F bs ptr Fs → (B.in k = none → Hid (Gives (CodePost (B.opcode k c) (OpPost w b B k 4 g F G E)) (.returned (.int .u16 51)) w2)) ∧
      ∀ d, B.in k = some d → Hid (Calls Try.prog 103 #[ptr (k.toNat * 3)] w2 fun e w3 => e = .returned (.tuple #[]) ∧ Hid (Calls Try.prog 89 #[ptr (k.toNat * 3), .pointer (some ⟨b1, 0, none⟩), .pointer (some ⟨b2, 0, none⟩)] w3 (fun e w4 => e = .returned (.int .u16 (c d.use.disk)) ∧ Hid (OpPost w b B k 4 g F G E w4)))) := by
    intro w2 hk2 hl2
    refine ⟨fun hin => ?_, fun d hin => ?_⟩
    · refine ⟨_, rfl, by rw [hopc, hin], ⟨F, ?_, hk2.mono fun x _ e => .inl ((h.hF x).2 (.inl e)), fun _ hx => .inl hx⟩, ?_⟩
      · rw [hop, hin]; exact ⟨bs, ptr, Fs, hl2⟩
      · rw [hreach, hin]; exact hk2.mono fun x _ e => (h.hF x).2 (.inl e)
    · have hdv : B.dev (k.toNat * 3) = some d := by unfold By.in at hin; rwa [if_pos hk] at hin
      have hi : k.toNat * 3 < B.n * 3 := by have := hk.1; have := hk.2; omega
      have hdev := hl2.dev (k.toNat * 3)
      have hdv2 : (B.tick 4).dev (k.toNat * 3) = some d := hdv
      rw [hdv2] at hdev
      have hleft := h.ok.left _ d hdv
      refine (use_any hdev (hcl _ d hdv) hleft).mono ?_
      rintro e w3 ⟨_, rfl, rfl, F3, hd3, hk3, hF3⟩
      refine ⟨rfl, ?_⟩
      have hk3' : Keep (Fs (k.toNat * 3)) w2 w3 := hk3.mono fun x _ hx => hx.resolve_right (fun h => h)
      have hFsF : ∀ x, Fs (k.toNat * 3) x → F x := fun x hx => (h.hF x).2 (.inr (.inr ⟨_, hx⟩))
      have hkw : Keep F w w3 := (hk2.mono (G := F) fun x _ e => (h.hF x).2 (.inl e)).trans hk3' fun x _ hx => hFsF x hx
      have hsz : w.heap.size ≤ w2.heap.size := hk2.size
      have hF3' : ∀ x, F3 x → F x ∨ w.heap.size ≤ x := fun x hx => (hF3 x hx).imp (hFsF x) (fun h => by omega)
      refine (hdo w3 (ptr (k.toNat * 3)) d.use F3 hkw hF3' hd3 (Nat.le_trans d.use_cache (hcl _ d hdv))).mono ?_
      rintro e w4 ⟨_, rfl, rfl, ⟨F4, hd4, hk4, hF4⟩, hE⟩
      have hsz3 : w2.heap.size ≤ w3.heap.size := hk3.size
      have hk24 : Keep (fun x => Fs (k.toNat * 3) x ∨ G x) w2 w4 := (hk3'.mono fun x _ hx => .inl hx).trans hk4 fun x hx h => by
        rcases h with h | h
        · rcases hF3 x h with h | h
          · exact .inl h
          · omega
        · exact .inr h
      have hF4' : ∀ x, F4 x → Fs (k.toNat * 3) x ∨ w2.heap.size ≤ x := fun x hx => by
        rcases hF4 x hx with h | h
        · exact hF3 x h
        · exact .inr (by omega)
      have hfin := hl2.redevG hG hk24 hd4 hF4' hi (fun d' e => by
        obtain rfl : ({ d.use with disk := g d.use.disk } : Dev) = d' := by simpa using e
        exact d.use_left hleft)
      refine ⟨rfl, ⟨fun x => x = b ∨ x = bs ∨ ∃ j, put Fs (k.toNat * 3) F4 j x, ?_, ?_, ?_⟩, ?_⟩
      · rw [hop, hin]; exact ⟨bs, ptr, _, hfin⟩
      · exact (hk2.mono (G := fun x => F x ∨ G x) fun x _ e => .inl ((h.hF x).2 (.inl e))).trans hk24 fun x _ hx => hx.imp (hFsF x) id
      · exact fun x hx => (hl2.redev_F (w' := w4) hF4' x hx).imp id (fun h => by omega)
      · rw [hreach, hin]; exact ⟨w3, by omega, hE⟩
  have tick2 : ∀ w', Keep (· = b) w w' → w'.heap[b]? = some (.cells #[.slice (some ⟨bs, 0, none⟩) B.n B.n, .bool B.dark, .int .i64 (B.tick 4).trip, .int .i64 (B.tick 4).cr, .int .i64 (B.tick 4).cw, .int .i64 (B.tick 4).cf] 130 (0, 0)) → BayLies w' b (B.tick 4) F bs ptr Fs := fun w' h1 h2 => tick_lies h 4 h1 ht h2
  by_cases hp : 0 < B.trip
  · skip
    have hkA : Keep (· = b) w ((w.setCell ⟨b, 2, none⟩ (.int .i64 (B.trip - 1))).setCell ⟨b, 4, none⟩ (.int .i64 (B.cw + 1))) := (Keep.setCell (F := (· = b)) w ⟨b, 2, none⟩ (.int .i64 (B.trip - 1)) rfl).trans' (Keep.setCell (F := (· = b)) _ ⟨b, 4, none⟩ (.int .i64 (B.cw + 1)) rfl)
    have hbA := heap_setCell_same _ b 4 _ _ (.int .i64 (B.cw + 1)) (heap_setCell_same w b 2 _ _ (.int .i64 (B.trip - 1)) h.hb)
    have hlA := tick2 _ hkA (by simpa [By.tick, hp] using hbA)
    obtain ⟨k1, k2⟩ := key _ hkA hlA
    have HT := Lib.hid (there_any hlA k)
    have hin : (B.tick 4).in k = B.in k := rfl
    rcases hlA.in_cases k with ⟨e1, e2, e3⟩ | ⟨d, e1, _, _, e3, e2, _⟩
    · rw [e2] at HT
      have e1' : B.in k = none := e1
      have K1 := k1 e1'
      have htc : (B.tick 4).tcode k = 51 := by
        have e4 : B.dev (k.toNat * 3) = none := by unfold By.in at e1'; rwa [if_pos hk] at e1'
        have e5 : B.tcode k = 51 := by unfold By.tcode; rw [if_pos hk, e4]
        exact e5
      rw [htc] at HT
      clear h hk HAe hdo key k1 k2 hlA hkA hbA tick2 hopc hop hreach hcl hin e1 e1' e2 e3 hstart htc hG ht
      generalize B.trip = t at *
      generalize B.cw = q1 at *
      generalize k.toNat * 3 = q at *
      go_enter Try.func87, Try.ntmps87
      go_wp2_with (first | (go_at_call 92; refine HA.out.mono ?_; rintro e w' ⟨rfl, rfl⟩) | (go_at_call 88; refine (count_88 b _).mono ?_; rintro e w' ⟨rfl, rfl⟩) | (go_at_call 80; go_must (refine HT.out.mono ?_); rintro e w' ⟨rfl, rfl⟩))
      go_ret
      exact K1.out
    · rw [e2, e3] at HT
      have e1' : B.in k = some d := e1
      have K2 := Lib.hid (k2 d e1')
      have HO : Hid (B.opcode k c = c d.use.disk) := by rw [hopc, e1']; exact rfl
      clear h hk HAe hdo key k1 k2 hlA hkA hbA tick2 hopc hop hreach hcl hin e1 e1' e2 e3 hstart hG ht
      generalize B.trip = t at *
      generalize B.cw = q1 at *
      generalize k.toNat * 3 = q at *
      generalize ptr q = vp at *
      generalize c d.use.disk = cc at *
      go_enter Try.func87, Try.ntmps87
      go_wp2_with (first | (go_at_call 92; refine HA.out.mono ?_; rintro e w' ⟨rfl, rfl⟩) | (go_at_call 88; refine (count_88 b _).mono ?_; rintro e w' ⟨rfl, rfl⟩) | (go_at_call 80; go_must (refine HT.out.mono ?_); rintro e w' ⟨rfl, rfl⟩) | (go_at_call 103; go_must (refine K2.out.out.mono ?_); rintro e w3 ⟨rfl, H3⟩) | (go_at_call 89; go_must (refine H3.out.mono ?_); rintro e w4 ⟨rfl, H4⟩))
      go_ret
      exact ⟨_, rfl, (by rw [HO.out]; exact rfl), H4.out⟩
  · skip
    have hkA : Keep (· = b) w (w.setCell ⟨b, 4, none⟩ (.int .i64 (B.cw + 1))) := Keep.setCell (F := (· = b)) w ⟨b, 4, none⟩ (.int .i64 (B.cw + 1)) rfl
    have hbA := heap_setCell_same w b 4 _ _ (.int .i64 (B.cw + 1)) h.hb
    have hlA := tick2 _ hkA (by simpa [By.tick, hp] using hbA)
    obtain ⟨k1, k2⟩ := key _ hkA hlA
    have HT := Lib.hid (there_any hlA k)
    have hin : (B.tick 4).in k = B.in k := rfl
    have hp2 : B.trip ≤ 0 := by omega
    rcases hlA.in_cases k with ⟨e1, e2, e3⟩ | ⟨d, e1, _, _, e3, e2, _⟩
    · rw [e2] at HT
      have e1' : B.in k = none := e1
      have K1 := k1 e1'
      have htc : (B.tick 4).tcode k = 51 := by
        have e4 : B.dev (k.toNat * 3) = none := by unfold By.in at e1'; rwa [if_pos hk] at e1'
        have e5 : B.tcode k = 51 := by unfold By.tcode; rw [if_pos hk, e4]
        exact e5
      rw [htc] at HT
      clear h hk HAe hdo key k1 k2 hlA hkA hbA tick2 hopc hop hreach hcl hin e1 e1' e2 e3 hstart htc hG ht
      generalize B.trip = t at *
      generalize B.cw = q1 at *
      generalize k.toNat * 3 = q at *
      go_enter Try.func87, Try.ntmps87
      go_wp2_with (first | (go_at_call 92; refine HA.out.mono ?_; rintro e w' ⟨rfl, rfl⟩) | (go_at_call 88; refine (count_88 b _).mono ?_; rintro e w' ⟨rfl, rfl⟩) | (go_at_call 80; go_must (refine HT.out.mono ?_); rintro e w' ⟨rfl, rfl⟩))
      go_ret
      exact K1.out
    · rw [e2, e3] at HT
      have e1' : B.in k = some d := e1
      have K2 := Lib.hid (k2 d e1')
      have HO : Hid (B.opcode k c = c d.use.disk) := by rw [hopc, e1']; exact rfl
      clear h hk HAe hdo key k1 k2 hlA hkA hbA tick2 hopc hop hreach hcl hin e1 e1' e2 e3 hstart hG ht
      generalize B.trip = t at *
      generalize B.cw = q1 at *
      generalize k.toNat * 3 = q at *
      generalize ptr q = vp at *
      generalize c d.use.disk = cc at *
      go_enter Try.func87, Try.ntmps87
      go_wp2_with (first | (go_at_call 92; refine HA.out.mono ?_; rintro e w' ⟨rfl, rfl⟩) | (go_at_call 88; refine (count_88 b _).mono ?_; rintro e w' ⟨rfl, rfl⟩) | (go_at_call 80; go_must (refine HT.out.mono ?_); rintro e w' ⟨rfl, rfl⟩) | (go_at_call 103; go_must (refine K2.out.out.mono ?_); rintro e w3 ⟨rfl, H3⟩) | (go_at_call 89; go_must (refine H3.out.mono ?_); rintro e w4 ⟨rfl, H4⟩))
      go_ret
      exact ⟨_, rfl, (by rw [HO.out]; exact rfl), H4.out⟩

theorem operate_any_89 (h : BayAt w b B F) (k : Int) (b1 b2 : Nat) (hcnt : 0 ≤ B.cw ∧ B.cw ≤ 1000000) (hcl : ∀ j d, B.dev j = some d → d.disk.cache.length ≤ 1000000)
    (c : Dk → Int) (g : Dk → Dk) (G : Nat → Prop) (hG : ∀ x, F x → ¬ G x) (E : Dk → World → World → Prop)
    (hdo : ∀ w1 v d F1, Keep F w w1 → (∀ x, F1 x → F x ∨ w.heap.size ≤ x) → DevAt w1 v (some d) F1 → d.disk.cache.length ≤ 1000000 → Calls Try.prog 89 #[v, .pointer (some ⟨b1, 0, none⟩), .pointer (some ⟨b2, 0, none⟩)] w1 (Gives (CodePost (c d.disk) fun w2 => DevPost w1 v { d with disk := g d.disk } F1 G w2 ∧ E d.disk w1 w2))) :
    Calls Try.prog 87 #[.pointer (some ⟨b, 0, none⟩), .int .i64 k, .func (.func 88) #[] #[], .func (.func 89) #[] #[.pointer (some ⟨b1, 0, none⟩), .pointer (some ⟨b2, 0, none⟩)]] w (Gives (CodePost (B.opcode k c) (OpPost w b B k 4 g F G E))) := by
  obtain ⟨bs, ptr, Fs, h⟩ := h
  by_cases hk : B.is k
  · by_cases ht : B.trip = 0
    · have hs : B.start = { B with dark := true, trip := -1 } := by unfold By.start; rw [if_pos ht]
      refine (operate_trip_89 h k b1 b2 hk ht).mono ?_
      rintro e w' ⟨rfl, rfl⟩
      have hkA : Keep (· = b) w ((w.setCell ⟨b, 1, none⟩ (.bool true)).setCell ⟨b, 2, none⟩ (.int .i64 (-1))) := (Keep.setCell (F := (· = b)) w ⟨b, 1, none⟩ (.bool true) rfl).trans' (Keep.setCell (F := (· = b)) _ ⟨b, 2, none⟩ (.int .i64 (-1)) rfl)
      have hbA := heap_setCell_same _ b 2 _ _ (.int .i64 (-1)) (heap_setCell_same w b 1 _ _ (.bool true) h.hb)
      have hl : BayLies _ b B.start F bs ptr Fs := h.rehead (B' := B.start) hkA (by rw [hs]) (by rw [hs]) (by rw [hs]; exact ⟨by show (-1:Int) ≤ -1; decide, by show (-1:Int) ≤ 9223372036854775807; decide⟩) (by rw [hs]; simpa using hbA)
      refine ⟨_, rfl, by unfold By.opcode; rw [if_pos hk, hs]; exact rfl, ⟨F, ?_, hkA.mono fun x _ e => .inl ((h.hF x).2 (.inl e)), fun _ hx => .inl hx⟩, ?_⟩
      · have : B.op k 4 g = B.start := by unfold By.op; rw [if_pos hk, if_pos (by rw [hs])]
        rw [this]; exact ⟨bs, ptr, Fs, hl⟩
      · have : B.reach k = none := by unfold By.reach; rw [if_pos hk, if_pos (by rw [hs])]
        rw [this]; exact hkA.mono fun x _ e => (h.hF x).2 (.inl e)
    · have hs : B.start = B := by unfold By.start; rw [if_neg ht]
      cases hd : B.dark with
      | true =>
        refine (operate_dark_89 h k b1 b2 hk ht hd).mono ?_
        rintro e w' ⟨rfl, rfl⟩
        refine ⟨_, rfl, by unfold By.opcode; rw [if_pos hk, hs, if_pos hd], ⟨F, ?_, Keep.refl _ _, fun _ hx => .inl hx⟩, ?_⟩
        · have : B.op k 4 g = B := by unfold By.op; rw [if_pos hk, hs, if_pos hd]
          rw [this]; exact ⟨bs, ptr, Fs, h⟩
        · have : B.reach k = none := by unfold By.reach; rw [if_pos hk, hs, if_pos hd]
          rw [this]; exact Keep.refl _ _
      | false => exact operate_on_89 h k b1 b2 hk ht hd hcnt hcl c g G hG E hdo
  · refine (operate_none_89 h k b1 b2 hk).mono ?_
    rintro e w' ⟨rfl, rfl⟩
    refine ⟨_, rfl, by unfold By.opcode; rw [if_neg hk], ⟨F, ?_, Keep.refl _ _, fun _ hx => .inl hx⟩, ?_⟩
    · have : B.op k 4 g = B := by unfold By.op; rw [if_neg hk]
      rw [this]; exact ⟨bs, ptr, Fs, h⟩
    · have : B.reach k = none := by unfold By.reach; rw [if_neg hk]
      rw [this]; exact Keep.refl _ _
end
end Go.Proofs.Ytghnbbpoaeheaaa
