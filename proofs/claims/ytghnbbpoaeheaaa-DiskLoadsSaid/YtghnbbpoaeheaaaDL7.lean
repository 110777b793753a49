/- The bay's functions, walked: operate, once more. -/
import Derived.Test.YtghnbbpoaeheaaaDL6
namespace Go.Proofs.Ytghnbbpoaeheaaa
open Go.RowKit

/-! ### operate, function 94 counts, function 95 does -/
section
variable {w : World} {b : Nat} {B : By} {F : Nat → Prop} {bs : Nat} {ptr : Nat → Value} {Fs : Nat → Nat → Prop}
set_option maxHeartbeats 1000000 in
theorem operate_none_95 (h : BayLies w b B F bs ptr Fs) (k : Int) (b1 b2 : Nat) (hk : ¬ B.is k) :
    Calls Try.prog 87 #[.pointer (some ⟨b, 0, none⟩), .int .i64 k, .func (.func 94) #[] #[], .func (.func 95) #[] #[.pointer (some ⟨b1, 0, none⟩), .pointer (some ⟨b2, 0, none⟩)]] w fun e w' => e = .returned (.int .u16 1) ∧ w = w' := by
  have HA := Lib.hid (at_any h k)
  have e : slotPtr bs B.n k = .pointer none := by unfold slotPtr; exact if_neg hk
  rw [e] at HA
  clear h hk e
  go_enter Try.func87, Try.ntmps87
  go_wp2_with (go_at_call 92; refine HA.out.mono ?_; rintro e w' ⟨rfl, rfl⟩)
  go_ret
  exact ⟨rfl, rfl⟩
set_option maxHeartbeats 1000000 in
theorem operate_trip_95 (h : BayLies w b B F bs ptr Fs) (k : Int) (b1 b2 : Nat) (hk : B.is k) (ht : B.trip = 0) :
    Calls Try.prog 87 #[.pointer (some ⟨b, 0, none⟩), .int .i64 k, .func (.func 94) #[] #[], .func (.func 95) #[] #[.pointer (some ⟨b1, 0, none⟩), .pointer (some ⟨b2, 0, none⟩)]] w fun e w' => e = .returned (.int .u16 50) ∧ w' = (w.setCell ⟨b, 1, none⟩ (.bool true)).setCell ⟨b, 2, none⟩ (.int .i64 (-1)) := by
  have HA := Lib.hid (at_any h k)
  have e : slotPtr bs B.n k = .pointer (some ⟨bs, k.toNat * 3, none⟩) := by unfold slotPtr; exact if_pos hk
  rw [e] at HA
  obtain ⟨_, c1, c2, _⟩ := h.head
  rw [ht] at c2
  have f1 := free_at h.hb 1
  have f2 := free_at h.hb 2
  generalize k.toNat * 3 = q at *
  clear h hk e ht
  go_enter Try.func87, Try.ntmps87
  go_wp2_with (go_at_call 92; refine HA.out.mono ?_; rintro e w' ⟨rfl, rfl⟩)
  go_ret
  exact ⟨rfl, rfl⟩
set_option maxHeartbeats 1000000 in
theorem operate_dark_95 (h : BayLies w b B F bs ptr Fs) (k : Int) (b1 b2 : Nat) (hk : B.is k) (ht : ¬ B.trip = 0) (hd : B.dark = true) :
    Calls Try.prog 87 #[.pointer (some ⟨b, 0, none⟩), .int .i64 k, .func (.func 94) #[] #[], .func (.func 95) #[] #[.pointer (some ⟨b1, 0, none⟩), .pointer (some ⟨b2, 0, none⟩)]] w fun e w' => e = .returned (.int .u16 50) ∧ w = w' := by
  have HA := Lib.hid (at_any h k)
  have e : slotPtr bs B.n k = .pointer (some ⟨bs, k.toNat * 3, none⟩) := by unfold slotPtr; exact if_pos hk
  rw [e] at HA
  obtain ⟨_, c1, c2, _⟩ := h.head
  rw [hd] at c1
  have hne : (B.trip == 0) = false := by simpa using ht
  generalize B.trip = t at *
  generalize k.toNat * 3 = q at *
  clear h hk e ht hd
  go_enter Try.func87, Try.ntmps87
  go_wp2_with (go_at_call 92; refine HA.out.mono ?_; rintro e w' ⟨rfl, rfl⟩)
  go_ret
  exact ⟨rfl, rfl⟩

set_option maxHeartbeats 2000000 in
/-- From the counting on. -/
theorem operate_on_95 (h : BayLies w b B F bs ptr Fs) (k : Int) (b1 b2 : Nat) (hk : B.is k) (ht : ¬ B.trip = 0) (hd : B.dark = false) (hcnt : 0 ≤ B.cr ∧ B.cr ≤ 1000000) (hcl : ∀ j d, B.dev j = some d → d.disk.cache.length ≤ 1000000)
    (c : Dk → Int) (g : Dk → Dk) (G : Nat → Prop) (hG : ∀ x, F x → ¬ G x) (E : Dk → World → World → Prop)
    (hdo : ∀ w1 v d F1, Keep F w w1 → (∀ x, F1 x → F x ∨ w.heap.size ≤ x) → DevAt w1 v (some d) F1 → d.disk.cache.length ≤ 1000000 → Calls Try.prog 95 #[v, .pointer (some ⟨b1, 0, none⟩), .pointer (some ⟨b2, 0, none⟩)] w1 (Gives (CodePost (c d.disk) fun w2 => DevPost w1 v { d with disk := g d.disk } F1 G w2 ∧ E d.disk w1 w2))) :
    Calls Try.prog 87 #[.pointer (some ⟨b, 0, none⟩), .int .i64 k, .func (.func 94) #[] #[], .func (.func 95) #[] #[.pointer (some ⟨b1, 0, none⟩), .pointer (some ⟨b2, 0, none⟩)]] w (Gives (CodePost (B.opcode k c) (OpPost w b B k 3 g F G E))) := by
  have hstart : B.start.dark = false := by unfold By.start; rw [if_neg ht]; exact hd
  have hopc : B.opcode k c = match B.in k with | none => 51 | some d => c d.use.disk := by unfold By.opcode; rw [if_pos hk, hstart]; rfl
  have hop : B.op k 3 g = match B.in k with | none => B.tick 3 | some d => (B.tick 3).setDev (k.toNat * 3) (some { d.use with disk := g d.use.disk }) := by unfold By.op; rw [if_pos hk, hstart]; rfl
  have hreach : B.reach k = (B.in k).map Dev.use := by unfold By.reach; rw [if_pos hk, hstart]; rfl
  have HA := Lib.hid (at_any h k)
  have HAe : slotPtr bs B.n k = .pointer (some ⟨bs, k.toNat * 3, none⟩) := by unfold slotPtr; exact if_pos hk
  rw [HAe] at HA
  obtain ⟨_, c1, c2, c3, c4, c5⟩ := h.head
  rw [hd] at c1
  have hne : (B.trip == 0) = false := by simpa using ht
  obtain ⟨ht1, ht2⟩ := h.ok.trip
  obtain ⟨hn1, hn2⟩ := hcnt
  have fr := fun i => free_at h.hb i
  have fr2 := fr 2
  have frc := fr 3
  clear fr
  -- the world behind the counting
  have key : ∀ w2, Keep (· = b) w w2 → BayLies w2 b (B.tick 3) F bs ptr Fs → (B.in k = none → Hid (Gives (CodePost (B.opcode k c) (OpPost w b B k 3 g F G E)) (.returned (.int .u16 51)) w2)) ∧
      ∀ d, B.in k = some d → Hid (Calls Try.prog 103 #[ptr (k.toNat * 3)] w2 fun e w3 => e = .returned (.tuple #[]) ∧ Hid (Calls Try.prog 95 #[ptr (k.toNat * 3), .pointer (some ⟨b1, 0, none⟩), .pointer (some ⟨b2, 0, none⟩)] w3 (fun e w4 => e = .returned (.int .u16 (c d.use.disk)) ∧ Hid (OpPost w b B k 3 g F G E w4)))) := by
    intro w2 hk2 hl2
    refine ⟨fun hin => ?_, fun d hin => ?_⟩
    · refine ⟨_, rfl, by rw [hopc, hin], ⟨F, ?_, hk2.mono fun x _ e => .inl ((h.hF x).2 (.inl e)), fun _ hx => .inl hx⟩, ?_⟩
      · rw [hop, hin]; exact ⟨bs, ptr, Fs, hl2⟩
      · rw [hreach, hin]; exact hk2.mono fun x _ e => (h.hF x).2 (.inl e)
    · have hdv : B.dev (k.toNat * 3) = some d := by unfold By.in at hin; rwa [if_pos hk] at hin
      have hi : k.toNat * 3 < B.n * 3 := by have := hk.1; have := hk.2; omega
      have hdev := hl2.dev (k.toNat * 3)
      have hdv2 : (B.tick 3).dev (k.toNat * 3) = some d := hdv
      rw [hdv2] at hdev
      have hleft := h.ok.left _ d hdv
      refine (use_any hdev (hcl _ d hdv) hleft).mono ?_
      rintro e w3 ⟨_, rfl, rfl, F3, hd3, hk3, hF3⟩
      refine ⟨rfl, ?_⟩
      have hk3' : Keep (Fs (k.toNat * 3)) w2 w3 := hk3.mono fun x _ hx => hx.resolve_right (fun h => h)
      have hFsF : ∀ x, Fs (k.toNat * 3) x → F x := fun x hx => (h.hF x).2 (.inr (.inr ⟨_, hx⟩))
      have hkw : Keep F w w3 := (hk2.mono (G := F) fun x _ e => (h.hF x).2 (.inl e)).trans hk3' fun x _ hx => hFsF x hx
      have hsz : w.heap.size ≤ w2.heap.size := hk2.size
      have hF3' : ∀ x, F3 x → F x ∨ w.heap.size ≤ x := fun x hx => (hF3 x hx).imp (hFsF x) (fun h => by omega)
      refine (hdo w3 (ptr (k.toNat * 3)) d.use F3 hkw hF3' hd3 (Nat.le_trans d.use_cache (hcl _ d hdv))).mono ?_
      rintro e w4 ⟨_, rfl, rfl, ⟨F4, hd4, hk4, hF4⟩, hE⟩
      have hsz3 : w2.heap.size ≤ w3.heap.size := hk3.size
      have hk24 : Keep (fun x => Fs (k.toNat * 3) x ∨ G x) w2 w4 := (hk3'.mono fun x _ hx => .inl hx).trans hk4 fun x hx h => by
        rcases h with h | h
        · rcases hF3 x h with h | h
          · exact .inl h
          · omega
        · exact .inr h
      have hF4' : ∀ x, F4 x → Fs (k.toNat * 3) x ∨ w2.heap.size ≤ x := fun x hx => by
        rcases hF4 x hx with h | h
        · exact hF3 x h
        · exact .inr (by omega)
      have hfin := hl2.redevG hG hk24 hd4 hF4' hi (fun d' e => by
        obtain rfl : ({ d.use with disk := g d.use.disk } : Dev) = d' := by simpa using e
        exact d.use_left hleft)
      refine ⟨rfl, ⟨fun x => x = b ∨ x = bs ∨ ∃ j, put Fs (k.toNat * 3) F4 j x, ?_, ?_, ?_⟩, ?_⟩
      · rw [hop, hin]; exact ⟨bs, ptr, _, hfin⟩
      · exact (hk2.mono (G := fun x => F x ∨ G x) fun x _ e => .inl ((h.hF x).2 (.inl e))).trans hk24 fun x _ hx => hx.imp (hFsF x) id
      · exact fun x hx => (hl2.redev_F (w' := w4) hF4' x hx).imp id (fun h => by omega)
      · rw [hreach, hin]; exact ⟨w3, by omega, hE⟩
  have tick2 : ∀ w', Keep (· = b) w w' → w'.heap[b]? = some (.cells #[.slice (some ⟨bs, 0, none⟩) B.n B.n, .bool B.dark, .int .i64 (B.tick 3).trip, .int .i64 (B.tick 3).cr, .int .i64 (B.tick 3).cw, .int .i64 (B.tick 3).cf] 130 (0, 0)) → BayLies w' b (B.tick 3) F bs ptr Fs := fun w' h1 h2 => tick_lies h 3 h1 ht h2
  by_cases hp : 0 < B.trip
  · skip
    have hkA : Keep (· = b) w ((w.setCell ⟨b, 2, none⟩ (.int .i64 (B.trip - 1))).setCell ⟨b, 3, none⟩ (.int .i64 (B.cr + 1))) := (Keep.setCell (F := (· = b)) w ⟨b, 2, none⟩ (.int .i64 (B.trip - 1)) rfl).trans' (Keep.setCell (F := (· = b)) _ ⟨b, 3, none⟩ (.int .i64 (B.cr + 1)) rfl)
    have hbA := heap_setCell_same _ b 3 _ _ (.int .i64 (B.cr + 1)) (heap_setCell_same w b 2 _ _ (.int .i64 (B.trip - 1)) h.hb)
    have hlA := tick2 _ hkA (by simpa [By.tick, hp] using hbA)
    obtain ⟨k1, k2⟩ := key _ hkA hlA
    have HT := Lib.hid (there_any hlA k)
    have hin : (B.tick 3).in k = B.in k := rfl
    rcases hlA.in_cases k with ⟨e1, e2, e3⟩ | ⟨d, e1, _, _, e3, e2, _⟩
    · rw [e2] at HT
      have e1' : B.in k = none := e1
      have K1 := k1 e1'
      have htc : (B.tick 3).tcode k = 51 := by
        have e4 : B.dev (k.toNat * 3) = none := by unfold By.in at e1'; rwa [if_pos hk] at e1'
        have e5 : B.tcode k = 51 := by unfold By.tcode; rw [if_pos hk, e4]
        exact e5
      rw [htc] at HT
      clear h hk HAe hdo key k1 k2 hlA hkA hbA tick2 hopc hop hreach hcl hin e1 e1' e2 e3 hstart htc hG ht
      generalize B.trip = t at *
      generalize B.cr = q1 at *
      generalize k.toNat * 3 = q at *
      go_enter Try.func87, Try.ntmps87
      go_wp2_with (first | (go_at_call 92; refine HA.out.mono ?_; rintro e w' ⟨rfl, rfl⟩) | (go_at_call 94; refine (count_94 b _).mono ?_; rintro e w' ⟨rfl, rfl⟩) | (go_at_call 80; go_must (refine HT.out.mono ?_); rintro e w' ⟨rfl, rfl⟩))
      go_ret
      exact K1.out
    · rw [e2, e3] at HT
      have e1' : B.in k = some d := e1
      have K2 := Lib.hid (k2 d e1')
      have HO : Hid (B.opcode k c = c d.use.disk) := by rw [hopc, e1']; exact rfl
      clear h hk HAe hdo key k1 k2 hlA hkA hbA tick2 hopc hop hreach hcl hin e1 e1' e2 e3 hstart hG ht
      generalize B.trip = t at *
      generalize B.cr = q1 at *
      generalize k.toNat * 3 = q at *
      generalize ptr q = vp at *
      generalize c d.use.disk = cc at *
      go_enter Try.func87, Try.ntmps87
      go_wp2_with (first | (go_at_call 92; refine HA.out.mono ?_; rintro e w' ⟨rfl, rfl⟩) | (go_at_call 94; refine (count_94 b _).mono ?_; rintro e w' ⟨rfl, rfl⟩) | (go_at_call 80; go_must (refine HT.out.mono ?_); rintro e w' ⟨rfl, rfl⟩) | (go_at_call 103; go_must (refine K2.out.out.mono ?_); rintro e w3 ⟨rfl, H3⟩) | (go_at_call 95; go_must (refine H3.out.mono ?_); rintro e w4 ⟨rfl, H4⟩))
      go_ret
      exact ⟨_, rfl, (by rw [HO.out]; exact rfl), H4.out⟩
  · skip
    have hkA : Keep (· = b) w (w.setCell ⟨b, 3, none⟩ (.int .i64 (B.cr + 1))) := Keep.setCell (F := (· = b)) w ⟨b, 3, none⟩ (.int .i64 (B.cr + 1)) rfl
    have hbA := heap_setCell_same w b 3 _ _ (.int .i64 (B.cr + 1)) h.hb
    have hlA := tick2 _ hkA (by simpa [By.tick, hp] using hbA)
    obtain ⟨k1, k2⟩ := key _ hkA hlA
    have HT := Lib.hid (there_any hlA k)
    have hin : (B.tick 3).in k = B.in k := rfl
    have hp2 : B.trip ≤ 0 := by omega
    rcases hlA.in_cases k with ⟨e1, e2, e3⟩ | ⟨d, e1, _, _, e3, e2, _⟩
    · rw [e2] at HT
      have e1' : B.in k = none := e1
      have K1 := k1 e1'
      have htc : (B.tick 3).tcode k = 51 := by
        have e4 : B.dev (k.toNat * 3) = none := by unfold By.in at e1'; rwa [if_pos hk] at e1'
        have e5 : B.tcode k = 51 := by unfold By.tcode; rw [if_pos hk, e4]
        exact e5
      rw [htc] at HT
      clear h hk HAe hdo key k1 k2 hlA hkA hbA tick2 hopc hop hreach hcl hin e1 e1' e2 e3 hstart htc hG ht
      generalize B.trip = t at *
      generalize B.cr = q1 at *
      generalize k.toNat * 3 = q at *
      go_enter Try.func87, Try.ntmps87
      go_wp2_with (first | (go_at_call 92; refine HA.out.mono ?_; rintro e w' ⟨rfl, rfl⟩) | (go_at_call 94; refine (count_94 b _).mono ?_; rintro e w' ⟨rfl, rfl⟩) | (go_at_call 80; go_must (refine HT.out.mono ?_); rintro e w' ⟨rfl, rfl⟩))
      go_ret
      exact K1.out
    · rw [e2, e3] at HT
      have e1' : B.in k = some d := e1
      have K2 := Lib.hid (k2 d e1')
      have HO : Hid (B.opcode k c = c d.use.disk) := by rw [hopc, e1']; exact rfl
      clear h hk HAe hdo key k1 k2 hlA hkA hbA tick2 hopc hop hreach hcl hin e1 e1' e2 e3 hstart hG ht
      generalize B.trip = t at *
      generalize B.cr = q1 at *
      generalize k.toNat * 3 = q at *
      generalize ptr q = vp at *
      generalize c d.use.disk = cc at *
      go_enter Try.func87, Try.ntmps87
      go_wp2_with (first | (go_at_call 92; refine HA.out.mono ?_; rintro e w' ⟨rfl, rfl⟩) | (go_at_call 94; refine (count_94 b _).mono ?_; rintro e w' ⟨rfl, rfl⟩) | (go_at_call 80; go_must (refine HT.out.mono ?_); rintro e w' ⟨rfl, rfl⟩) | (go_at_call 103; go_must (refine K2.out.out.mono ?_); rintro e w3 ⟨rfl, H3⟩) | (go_at_call 95; go_must (refine H3.out.mono ?_); rintro e w4 ⟨rfl, H4⟩))
      go_ret
      exact ⟨_, rfl, (by rw [HO.out]; exact rfl), H4.out⟩

theorem operate_any_95 (h : BayAt w b B F) (k : Int) (b1 b2 : Nat) (hcnt : 0 ≤ B.cr ∧ B.cr ≤ 1000000) (hcl : ∀ j d, B.dev j = some d → d.disk.cache.length ≤ 1000000)
    (c : Dk → Int) (g : Dk → Dk) (G : Nat → Prop) (hG : ∀ x, F x → ¬ G x) (E : Dk → World → World → Prop)
    (hdo : ∀ w1 v d F1, Keep F w w1 → (∀ x, F1 x → F x ∨ w.heap.size ≤ x) → DevAt w1 v (some d) F1 → d.disk.cache.length ≤ 1000000 → Calls Try.prog 95 #[v, .pointer (some ⟨b1, 0, none⟩), .pointer (some ⟨b2, 0, none⟩)] w1 (Gives (CodePost (c d.disk) fun w2 => DevPost w1 v { d with disk := g d.disk } F1 G w2 ∧ E d.disk w1 w2))) :
    Calls Try.prog 87 #[.pointer (some ⟨b, 0, none⟩), .int .i64 k, .func (.func 94) #[] #[], .func (.func 95) #[] #[.pointer (some ⟨b1, 0, none⟩), .pointer (some ⟨b2, 0, none⟩)]] w (Gives (CodePost (B.opcode k c) (OpPost w b B k 3 g F G E))) := by
  obtain ⟨bs, ptr, Fs, h⟩ := h
  by_cases hk : B.is k
  · by_cases ht : B.trip = 0
    · have hs : B.start = { B with dark := true, trip := -1 } := by unfold By.start; rw [if_pos ht]
      refine (operate_trip_95 h k b1 b2 hk ht).mono ?_
      rintro e w' ⟨rfl, rfl⟩
      have hkA : Keep (· = b) w ((w.setCell ⟨b, 1, none⟩ (.bool true)).setCell ⟨b, 2, none⟩ (.int .i64 (-1))) := (Keep.setCell (F := (· = b)) w ⟨b, 1, none⟩ (.bool true) rfl).trans' (Keep.setCell (F := (· = b)) _ ⟨b, 2, none⟩ (.int .i64 (-1)) rfl)
      have hbA := heap_setCell_same _ b 2 _ _ (.int .i64 (-1)) (heap_setCell_same w b 1 _ _ (.bool true) h.hb)
      have hl : BayLies _ b B.start F bs ptr Fs := h.rehead (B' := B.start) hkA (by rw [hs]) (by rw [hs]) (by rw [hs]; exact ⟨by show (-1:Int) ≤ -1; decide, by show (-1:Int) ≤ 9223372036854775807; decide⟩) (by rw [hs]; simpa using hbA)
      refine ⟨_, rfl, by unfold By.opcode; rw [if_pos hk, hs]; exact rfl, ⟨F, ?_, hkA.mono fun x _ e => .inl ((h.hF x).2 (.inl e)), fun _ hx => .inl hx⟩, ?_⟩
      · have : B.op k 3 g = B.start := by unfold By.op; rw [if_pos hk, if_pos (by rw [hs])]
        rw [this]; exact ⟨bs, ptr, Fs, hl⟩
      · have : B.reach k = none := by unfold By.reach; rw [if_pos hk, if_pos (by rw [hs])]
        rw [this]; exact hkA.mono fun x _ e => (h.hF x).2 (.inl e)
    · have hs : B.start = B := by unfold By.start; rw [if_neg ht]
      cases hd : B.dark with
      | true =>
        refine (operate_dark_95 h k b1 b2 hk ht hd).mono ?_
        rintro e w' ⟨rfl, rfl⟩
        refine ⟨_, rfl, by unfold By.opcode; rw [if_pos hk, hs, if_pos hd], ⟨F, ?_, Keep.refl _ _, fun _ hx => .inl hx⟩, ?_⟩
        · have : B.op k 3 g = B := by unfold By.op; rw [if_pos hk, hs, if_pos hd]
          rw [this]; exact ⟨bs, ptr, Fs, h⟩
        · have : B.reach k = none := by unfold By.reach; rw [if_pos hk, hs, if_pos hd]
          rw [this]; exact Keep.refl _ _
      | false => exact operate_on_95 h k b1 b2 hk ht hd hcnt hcl c g G hG E hdo
  · refine (operate_none_95 h k b1 b2 hk).mono ?_
    rintro e w' ⟨rfl, rfl⟩
    refine ⟨_, rfl, by unfold By.opcode; rw [if_neg hk], ⟨F, ?_, Keep.refl _ _, fun _ hx => .inl hx⟩, ?_⟩
    · have : B.op k 3 g = B := by unfold By.op; rw [if_neg hk]
      rw [this]; exact ⟨bs, ptr, Fs, h⟩
    · have : B.reach k = none := by unfold By.reach; rw [if_neg hk]
      rw [this]; exact Keep.refl _ _
end
end Go.Proofs.Ytghnbbpoaeheaaa

/- The bay's functions, walked: Flush, Write, Read. -/
namespace Go.Proofs.Ytghnbbpoaeheaaa
open Go.RowKit

theorem BytesAt.keep2 {w w' : World} {v : Value} {l : List Int} {G : Nat → Prop} (h : BytesAt w v l) (hk : Keep G w w') (hG : l ≠ [] → ∀ a n c, v = .slice (some a) n c → ¬ G a.block) : BytesAt w' v l := by
  obtain ⟨a, cap, hv, h1, h2, h3⟩ := h
  refine ⟨a, cap, hv, h1, h2, fun hl => ?_⟩
  obtain ⟨bb, o, ha, hr⟩ := h3 hl
  refine ⟨bb, o, ha, fun j u hu => ?_⟩
  have hc := hr j u hu
  have hb := World.block_lt_of_cell? w _ hc
  rw [World.cell?_of_block (w := w) (hk.block bb hb (by subst ha; exact hG hl _ _ _ hv))]
  exact hc

/-- The elements' types of a bay's own blocks. -/
def bayTypes : List Nat := [130, 135, 133, 100, 102, 142]
theorem DiskAt.apart_of_type {w : World} {b : Nat} {D : Dk} {F : Nat → Prop} (h : DiskAt w b D F) {x : Nat} {cs : Array Value} {t : TypeId} {fr : Nat × Nat} (hx : w.heap[x]? = some (.cells cs t fr)) (ht : t ∉ bayTypes) : ¬ F x := by
  obtain ⟨bL, bS, csl, es, ck, h1, h2, h3, _, h5, hF, _⟩ := h
  intro hf
  have key : ∀ (ca : Array Value) (ta : TypeId) (fa : Nat × Nat), w.heap[x]? = some (.cells ca ta fa) → ta ∈ bayTypes → False := fun ca ta fa ha hm => by
    rw [hx] at ha
    simp at ha
    exact ht (ha.2.1 ▸ hm)
  rcases (hF x).1 hf with rfl | rfl | rfl | hc
  · exact key _ _ _ h1 (by decide)
  · exact key _ _ _ h2 (by decide)
  · rw [hx] at h3; simp at h3
  · obtain ⟨cs', hcs⟩ := own_elem h5 hc
    exact key _ _ _ hcs (by decide)
theorem DevAt.apart_of_type {w : World} {v : Value} {d : Option Dev} {F : Nat → Prop} (h : DevAt w v d F) {x : Nat} {cs : Array Value} {t : TypeId} {fr : Nat × Nat} (hx : w.heap[x]? = some (.cells cs t fr)) (ht : t ∉ bayTypes) : ¬ F x := by
  cases d with
  | none => exact h.2 x
  | some d =>
    obtain ⟨bv, bd, Fd, h1, h2, h3, h4, h5⟩ := h
    intro hf
    rcases (h5 x).1 hf with rfl | hf
    · rw [hx] at h2; simp at h2; exact ht (h2.2.1 ▸ by decide)
    · exact h3.apart_of_type hx ht hf
theorem BayAt.apart_of_type {w : World} {b : Nat} {B : By} {F : Nat → Prop} (h : BayAt w b B F) {x : Nat} {cs : Array Value} {t : TypeId} {fr : Nat × Nat} (hx : w.heap[x]? = some (.cells cs t fr)) (ht : t ∉ bayTypes) : ¬ F x := by
  obtain ⟨bs, ptr, Fs, h⟩ := h
  intro hf
  rcases (h.hF x).1 hf with rfl | rfl | ⟨j, hj⟩
  · have := h.hb; rw [hx] at this; simp at this; exact ht (this.2.1 ▸ by decide)
  · have := h.hs; rw [hx] at this; simp at this; exact ht (this.2.1 ▸ by decide)
  · exact (h.dev j).apart_of_type hx ht hj

section
variable {w : World} {b : Nat} {B : By} {F : Nat → Prop}
theorem OpPost.bay {k : Int} {ci : Nat} {g : Dk → Dk} {G : Nat → Prop} {E : Dk → World → World → Prop} {w0 w' : World} (h : OpPost w b B k ci g F G E w') (hk : Keep F w0 w) (hG : ∀ x, x < w0.heap.size → ¬ G x) : BayPost w0 b (B.op k ci g) F w' := by
  obtain ⟨⟨F', h1, h2, h3⟩, _⟩ := h
  refine ⟨F', h1, hk.trans h2 fun x hx e => e.resolve_right (hG x hx), fun x hx => (h3 x hx).imp id (fun h => Nat.le_trans hk.size h)⟩

theorem bflush_any (h : BayAt w b B F) (k : Int) (hcnt : 0 ≤ B.cf ∧ B.cf ≤ 1000000) (hcl : ∀ j d, B.dev j = some d → d.disk.cache.length ≤ 1000000) :
    Calls Try.prog 42 #[.pointer (some ⟨b, 0, none⟩), .int .i64 k] w (Gives (CodePost (B.opcode k Dk.fcode) (BayPost w b (B.op k 5 Dk.flush) F))) := by
  have HO := Lib.hid (operate_any_91 h k hcnt hcl Dk.fcode Dk.flush NoF (fun _ _ h => h) (fun _ _ _ => True) (fun w1 v d F1 _ _ hd hc => (do_flush hd hc).mono fun e w' hg => by
    obtain ⟨v, rfl, rfl, hp⟩ := hg
    exact ⟨_, rfl, rfl, hp, trivial⟩))
  have HB : Hid (∀ w', OpPost w b B k 5 Dk.flush F NoF (fun _ _ _ => True) w' → BayPost w b (B.op k 5 Dk.flush) F w') := fun w' hp => hp.bay (Keep.refl _ _) (fun _ _ h => h)
  clear h hcnt hcl
  generalize B.opcode k Dk.fcode = cc at *
  go_enter Try.func42, Try.ntmps42
  go_wp2_with (go_at_call 87; go_must (refine HO.out.mono ?_); rintro e w' ⟨v, rfl, rfl, hp⟩; have HP := Lib.hid hp; clear hp)
  go_ret
  exact ⟨_, rfl, rfl, HB.out _ HP.out⟩

set_option maxHeartbeats 400000 in
theorem bwrite_any (h : BayAt w b B F) (k at_ : Int) (v : Value) (xs : List Int) (hv : BytesAt w v xs) (hvF : xs ≠ [] → ∀ a n c, v = .slice (some a) n c → ¬ F a.block) (hcnt : 0 ≤ B.cw ∧ B.cw ≤ 1000000) (hcl : ∀ j d, B.dev j = some d → d.disk.cache.length ≤ 1000000) :
    Calls Try.prog 41 #[.pointer (some ⟨b, 0, none⟩), .int .i64 k, .int .i64 at_, v] w (Gives (CodePost (B.opcode k (fun D => D.wcode at_ xs.length)) (BayPost w b (B.op k 4 (fun D => D.write at_ xs)) F))) := by
  have hlt := h.lt
  have hk2 : Keep NoF w ((w.alloc (.cells #[.int .i64 at_] 3)).alloc (.cells #[v] 22)) := (Keep.alloc _ _ _).trans' (Keep.alloc _ _ _)
  have h2 := h.keep hk2 (fun _ _ h => h)
  have hv2 := hv.keep2 hk2 (fun _ _ _ _ _ h => h)
  have hF1 : ¬ F w.heap.size := fun hx => by have := hlt _ hx; omega
  have hF2 : ¬ F (w.heap.size + 1) := fun hx => by have := hlt _ hx; omega
  have e1 := Below.heap_alloc (w.alloc (.cells #[.int .i64 at_] 3)) (.cells #[v] 22) w.heap.size (by simp)
  rw [heap_alloc_new w (.cells #[.int .i64 at_] 3)] at e1
  have e2 := heap_alloc_new (w.alloc (.cells #[.int .i64 at_] 3)) (.cells #[v] 22)
  rw [show (w.alloc (.cells #[.int .i64 at_] 3)).heap.size = w.heap.size + 1 by simp] at e2
  have hsz : ((w.alloc (.cells #[.int .i64 at_] 3)).alloc (.cells #[v] 22)).heap.size = w.heap.size + 2 := by simp
  have HO := Lib.hid (operate_any_89 h2 k w.heap.size (w.heap.size + 1) hcnt hcl (fun D => D.wcode at_ xs.length) (fun D => D.write at_ xs) NoF (fun _ _ h => h) (fun _ _ _ => True) (fun w1 v1 d F1 hk hF hd hc => by
    have c1 := hk.at e1 hF1
    have c2 := hk.at e2 hF2
    refine (do_write hd w.heap.size (w.heap.size + 1) at_ v xs (cell_at c1 0 rfl) (cell_at c2 0 rfl) (hv2.keep2 hk hvF) hc (fun hx => ?_) (fun hx => ?_)).mono fun e w' hg => ?_
    · rcases hF _ hx with hx | hx
      · exact hF1 hx
      · omega
    · rcases hF _ hx with hx | hx
      · exact hF2 hx
      · omega
    · obtain ⟨v, rfl, rfl, hp⟩ := hg
      exact ⟨_, rfl, rfl, hp, trivial⟩))
  have HB : Hid (∀ w', OpPost ((w.alloc (.cells #[.int .i64 at_] 3)).alloc (.cells #[v] 22)) b B k 4 (fun D => D.write at_ xs) F NoF (fun _ _ _ => True) w' → BayPost w b (B.op k 4 (fun D => D.write at_ xs)) F w') := fun w' hp => hp.bay (hk2.mono fun _ _ h => h.elim) (fun _ _ h => h)
  obtain ⟨a, cap, rfl, _⟩ := hv
  clear h hcnt hcl hvF hlt hk2 h2 hv2 hF1 hF2 e1 e2 hsz
  generalize B.opcode k (fun D => D.wcode at_ xs.length) = cc at *
  go_enter Try.func41, Try.ntmps41
  go_wp2_with (go_at_call 87; go_must (refine HO.out.mono ?_); rintro e w' ⟨v, rfl, rfl, hp⟩; have HP := Lib.hid hp; clear hp)
  go_ret
  exact ⟨_, rfl, rfl, HB.out _ HP.out⟩

def By.readB (B : By) (k at_ : Int) : List Int := match B.reach k with | none => [] | some d => d.disk.read at_
def BReadPost (w : World) (b : Nat) (B : By) (F : Nat → Prop) (k at_ : Int) (v : Value) (w' : World) : Prop :=
  ∃ s, v = .tuple #[s, .int .u16 (B.opcode k (fun D => D.code at_))] ∧ OwnB w' w.heap.size s (B.readB k at_) ∧
    ∃ F', BayAt w' b (B.op k 3 id) F' ∧ Keep F w w' ∧ (∀ x, F' x → F x ∨ w.heap.size ≤ x) ∧ ∀ x, s.ownBlock = some x → ¬ F' x

set_option maxHeartbeats 400000 in
theorem bread_any (h : BayAt w b B F) (k at_ : Int) (hcnt : 0 ≤ B.cr ∧ B.cr ≤ 1000000) (hcl : ∀ j d, B.dev j = some d → d.disk.cache.length ≤ 1000000) :
    Calls Try.prog 47 #[.pointer (some ⟨b, 0, none⟩), .int .i64 k, .int .i64 at_] w (Gives (BReadPost w b B F k at_)) := by
  have hlt := h.lt
  have hk2 : Keep NoF w ((w.alloc (.cells #[.int .i64 at_] 3)).alloc (.cells #[.slice none 0 0] 22)) := (Keep.alloc _ _ _).trans' (Keep.alloc _ _ _)
  have h2 := h.keep hk2 (fun _ _ h => h)
  have hF1 : ¬ F w.heap.size := fun hx => by have := hlt _ hx; omega
  have hF2 : ¬ F (w.heap.size + 1) := fun hx => by have := hlt _ hx; omega
  have e1 := Below.heap_alloc (w.alloc (.cells #[.int .i64 at_] 3)) (.cells #[.slice none 0 0] 22) w.heap.size (by simp)
  rw [heap_alloc_new w (.cells #[.int .i64 at_] 3)] at e1
  have e2 := heap_alloc_new (w.alloc (.cells #[.int .i64 at_] 3)) (.cells #[.slice none 0 0] 22)
  rw [show (w.alloc (.cells #[.int .i64 at_] 3)).heap.size = w.heap.size + 1 by simp] at e2
  have hsz : ((w.alloc (.cells #[.int .i64 at_] 3)).alloc (.cells #[.slice none 0 0] 22)).heap.size = w.heap.size + 2 := by simp
  have ho := operate_any_95 h2 k w.heap.size (w.heap.size + 1) hcnt hcl (fun D => D.code at_) id (· = w.heap.size + 1) (fun x hx e => hF2 (e ▸ hx)) (fun D w1 w2 => ReadLeft w1 (w.heap.size + 1) (D.read at_) w2) (fun w1 v1 d F1 hk hF hd hc => by
    have c1 := hk.at e1 hF1
    have c2 := hk.at e2 hF2
    have hn2 : ¬ F1 (w.heap.size + 1) := fun hx => by
      rcases hF _ hx with hx | hx
      · exact hF2 hx
      · omega
    refine (do_read hd w.heap.size (w.heap.size + 1) at_ (cell_at c1 0 rfl) c2 (by omega) hn2).mono fun e w' hg => ?_
    obtain ⟨v, rfl, rfl, hp⟩ := hg
    obtain ⟨s, p1, p2, p3⟩ := id hp
    exact ⟨_, rfl, rfl, ⟨F1, hd.keep p3 (fun x hx e => hn2 (e ▸ hx)), p3.mono fun x _ e => .inr e, fun _ hx => .inl hx⟩, hp⟩)
  -- what the variable holds behind the operation
  have ho' : Calls Try.prog 87 #[.pointer (some ⟨b, 0, none⟩), .int .i64 k, .func (.func 94) #[] #[], .func (.func 95) #[] #[.pointer (some ⟨w.heap.size, 0, none⟩), .pointer (some ⟨w.heap.size + 1, 0, none⟩)]] ((w.alloc (.cells #[.int .i64 at_] 3)).alloc (.cells #[.slice none 0 0] 22))
      fun e w' => ∃ a n c, e = .returned (.int .u16 (B.opcode k (fun D => D.code at_))) ∧ w'.cell? ⟨w.heap.size + 1, 0, none⟩ = some (.slice a n c) ∧ w'.frozen? ⟨w.heap.size + 1, 0, none⟩ = false ∧
        Hid (BReadPost w b B F k at_ (.tuple #[.slice a n c, .int .u16 (B.opcode k (fun D => D.code at_))]) (w'.setCell ⟨w.heap.size + 1, 0, none⟩ (.slice a n c))) := by
    refine ho.mono fun e w' hg => ?_
    obtain ⟨v, rfl, rfl, ⟨F', q1, q2, q3⟩, q4⟩ := hg
    have hF'2 : ¬ F' (w.heap.size + 1) := fun hx => by
      rcases q3 _ hx with hx | hx
      · exact hF2 hx
      · omega
    have fin : ∀ a n c, w'.heap[w.heap.size + 1]? = some (.cells #[.slice a n c] 22 (0, 0)) → OwnB w' w.heap.size (.slice a n c) (B.readB k at_) → (∀ x, (Value.slice a n c).ownBlock = some x → ¬ F' x ∧ x ≠ w.heap.size + 1) →
        BReadPost w b B F k at_ (.tuple #[.slice a n c, .int .u16 (B.opcode k (fun D => D.code at_))]) (w'.setCell ⟨w.heap.size + 1, 0, none⟩ (.slice a n c)) := fun a n c r1 r2 r3 => by
      have hks : Keep (· = w.heap.size + 1) w' (w'.setCell ⟨w.heap.size + 1, 0, none⟩ (.slice a n c)) := Keep.setCell _ _ _ rfl
      refine ⟨_, rfl, ownsRow_keep r2 hks (fun x hx e => (r3 x hx).2 e), F', q1.keep hks (fun x hx e => hF'2 (e ▸ hx)), ?_, fun x hx => (q3 x hx).imp id (fun h => by omega), fun x hx => (r3 x hx).1⟩
      exact ((hk2.mono (G := F) fun _ _ h => h.elim).trans q2 fun x hx e => e.resolve_right (by intro e; omega)).trans hks fun x hx e => by have : x = w.heap.size + 1 := e; omega
    cases hr : B.reach k with
    | none =>
      rw [hr] at q4
      have c2 := q4.at e2 hF2
      refine ⟨none, 0, 0, rfl, cell_at c2 0 rfl, free_at c2 0, fin none 0 0 c2 ?_ (by intro x hx; cases hx)⟩
      unfold By.readB
      rw [hr]
      exact World.ownsRow_nil _ _ _ _
    | some d =>
      rw [hr] at q4
      obtain ⟨w1, hs1, s, p1, p2, p3⟩ := q4
      obtain ⟨a, c, rfl⟩ := own_form p2
      refine ⟨a, _, c, rfl, cell_at p1 0 rfl, free_at p1 0, fin _ _ _ p1 ?_ (fun x hx => ?_)⟩
      · unfold By.readB
        rw [hr]
        exact p2.mono (by omega)
      · have hge := ownBlock_ge p2 hx
        obtain ⟨cs, hcs⟩ := own_elem p2 hx
        exact ⟨q1.apart_of_type hcs (by decide), by omega⟩
  have HO := Lib.hid ho'
  clear h hcnt hcl hlt hk2 h2 hF1 hF2 e1 e2 hsz ho ho'
  generalize B.opcode k (fun D => D.code at_) = cc at *
  go_enter Try.func47, Try.ntmps47
  go_wp2_with (go_at_call 87; go_must (refine HO.out.mono ?_); rintro e w' ⟨a, n, c, rfl, r1, r2, hp⟩)
  refine bodyPost_ret (v := .tuple #[.slice a n c, .int .u16 cc]) ?_ rfl ⟨_, rfl, hp.out⟩
  have hc := World.cell?_setCell_same w' ⟨w.heap.size + 1, 0, none⟩ (.slice a n c) r1
  simp [results, Try.results47, go_sem, hc]
end
end Go.Proofs.Ytghnbbpoaeheaaa

/- The bay's functions, walked: Trip, Wear, Fail, New. -/
namespace Go.Proofs.Ytghnbbpoaeheaaa
open Go.RowKit

def By.tripc (B : By) (n : Int) : Int := if n < 0 then 1 else if B.dark then 50 else 0
def By.tripped (B : By) (n : Int) : By := if n < 0 then B else if B.dark then B else { B with trip := n }
def By.wearc (B : By) (k n : Int) : Int := if n < 0 then 1 else B.tcode k
def By.wear (B : By) (k n : Int) : By := if n < 0 then B else match B.in k with | none => B | some d => B.setDev (k.toNat * 3) (some { d with worn := true, left := n })
def By.failed (B : By) (k : Int) : By := match B.in k with | none => B | some d => B.setDev (k.toNat * 3) (some { d with disk := d.disk.fail })

section
variable {w : World} {b : Nat} {B : By} {F : Nat → Prop}
theorem trip_any (h : BayAt w b B F) (n : Int) (hn : n ≤ 9223372036854775807) : Calls Try.prog 30 #[.pointer (some ⟨b, 0, none⟩), .int .i64 n] w (Gives (CodePost (B.tripc n) (BayPost w b (B.tripped n) F))) := by
  have hsame := Lib.hid (BayPost.same h)
  obtain ⟨bs, ptr, Fs, h⟩ := h
  obtain ⟨c0, c1, c2, _⟩ := h.head
  have f2 := free_at h.hb 2
  unfold By.tripc By.tripped
  by_cases h0 : n < 0
  · rw [if_pos h0, if_pos h0]
    clear h hn
    go_enter Try.func30, Try.ntmps30
    go_wp2
    go_ret
    exact ⟨_, rfl, rfl, hsame.out⟩
  · rw [if_neg h0, if_neg h0]
    cases hd : B.dark with
    | true =>
      rw [hd] at c1
      clear h hn hd
      go_enter Try.func30, Try.ntmps30
      go_wp2
      go_ret
      exact ⟨_, rfl, rfl, hsame.out⟩
    | false =>
      have hkA : Keep (· = b) w (w.setCell ⟨b, 2, none⟩ (.int .i64 n)) := Keep.setCell (F := (· = b)) w ⟨b, 2, none⟩ (.int .i64 n) rfl
      have hbA := heap_setCell_same w b 2 _ _ (.int .i64 n) h.hb
      have hl : BayLies _ b { B with trip := n } F bs ptr Fs := h.rehead (B' := { B with trip := n }) hkA rfl rfl ⟨by show -1 ≤ n; omega, hn⟩ (by simpa using hbA)
      have HP : Hid (BayPost w b { B with trip := n } F (w.setCell ⟨b, 2, none⟩ (.int .i64 n))) := ⟨F, ⟨bs, ptr, Fs, hl⟩, hkA.mono fun x _ e => (h.hF x).2 (.inl e), fun _ hx => .inl hx⟩
      have he : (if false = true then B else { B with trip := n }) = { B with trip := n } := rfl
      have HP2 : Hid (BayPost w b (if false = true then B else { n := B.n, dev := B.dev, dark := false, trip := n, cr := B.cr, cw := B.cw, cf := B.cf }) F (w.setCell ⟨b, 2, none⟩ (.int .i64 n))) := by
        have := HP.out
        rw [show ({ B with trip := n } : By) = { n := B.n, dev := B.dev, dark := false, trip := n, cr := B.cr, cw := B.cw, cf := B.cf } by rw [← hd]] at this
        exact this
      rw [hd] at c1
      clear h hn hkA hbA hl he
      go_enter Try.func30, Try.ntmps30
      go_wp2
      go_ret
      exact ⟨_, rfl, rfl, HP2.out⟩

/-- A device's place is given another device: the bay behind it. -/
theorem BayLies.post {bs : Nat} {ptr : Nat → Value} {Fs : Nat → Nat → Prop} (h : BayLies w b B F bs ptr Fs) {i : Nat} (hi : i < B.n * 3) {d' : Dev} {w' : World} (hp : DevPost w (ptr i) d' (Fs i) NoF w') (hl : 0 ≤ d'.left ∧ d'.left ≤ 9223372036854775807) :
    BayPost w b (B.setDev i (some d')) F w' := by
  obtain ⟨F', h1, h2, h3⟩ := hp
  have hk : Keep (Fs i) w w' := h2.mono fun x _ hx => hx.resolve_right (fun h => h)
  exact ⟨_, ⟨bs, ptr, _, h.redev hk h1 h3 hi (fun d e => (Option.some.inj e) ▸ hl)⟩, hk.mono fun x _ hx => (h.hF x).2 (.inr (.inr ⟨i, hx⟩)), h.redev_F (w' := w') h3⟩

set_option maxHeartbeats 400000 in
theorem wear_any (h : BayAt w b B F) (k n : Int) (hn : n ≤ 9223372036854775807) : Calls Try.prog 26 #[.pointer (some ⟨b, 0, none⟩), .int .i64 k, .int .i64 n] w (Gives (CodePost (B.wearc k n) (BayPost w b (B.wear k n) F))) := by
  have hsame := Lib.hid (BayPost.same h)
  obtain ⟨bs, ptr, Fs, h⟩ := h
  unfold By.wearc By.wear
  by_cases h0 : n < 0
  · rw [if_pos h0, if_pos h0]
    clear h hn
    go_enter Try.func26, Try.ntmps26
    go_wp2
    go_ret
    exact ⟨_, rfl, rfl, hsame.out⟩
  · rw [if_neg h0, if_neg h0]
    have HT := Lib.hid (there_any h k)
    rcases h.in_cases k with ⟨h1, h2, h3⟩ | ⟨d, h1, hk, hdv, h3, h2, hi⟩
    · rw [h1]
      rw [h2] at HT
      have hne : (B.tcode k == 0) = false := by simpa using h3
      generalize B.tcode k = c at *
      clear h h1 h2 h3 hn
      go_enter Try.func26, Try.ntmps26
      go_wp2_with (go_at_call 80; refine HT.out.mono ?_; rintro e w' ⟨rfl, rfl⟩)
      go_ret
      exact ⟨_, rfl, rfl, hsame.out⟩
    · rw [h1, h3]
      rw [h2, h3] at HT
      have hd := h.dev (k.toNat * 3)
      rw [hdv] at hd
      obtain ⟨bv, bd, Fd, hp, hh, hdk, hnv, hF⟩ := id hd
      rw [hp] at HT
      have c1 := cell_at hh 1 rfl
      have c2 := cell_at hh 2 rfl
      have f1 := free_at hh 1
      have f2 := free_at hh 2
      have hk2 : Keep (· = bv) w ((w.setCell ⟨bv, 1, none⟩ (.bool true)).setCell ⟨bv, 2, none⟩ (.int .i64 n)) := (Keep.setCell (F := (· = bv)) w ⟨bv, 1, none⟩ (.bool true) rfl).trans' (Keep.setCell (F := (· = bv)) _ ⟨bv, 2, none⟩ (.int .i64 n) rfl)
      have hb2 := heap_setCell_same _ bv 2 _ _ (.int .i64 n) (heap_setCell_same w bv 1 _ _ (.bool true) hh)
      have hpost : DevPost w (ptr (k.toNat * 3)) { d with worn := true, left := n } (Fs (k.toNat * 3)) NoF ((w.setCell ⟨bv, 1, none⟩ (.bool true)).setCell ⟨bv, 2, none⟩ (.int .i64 n)) := by
        refine ⟨Fs (k.toNat * 3), ⟨bv, bd, Fd, hp, by simpa using hb2, hdk.keep hk2 (fun x hx e => hnv (e ▸ hx)), hnv, hF⟩, hk2.mono fun x _ e => .inl ((hF x).2 (.inl e)), fun _ hx => .inl hx⟩
      have HP := Lib.hid (h.post hi hpost ⟨by show 0 ≤ n; omega, hn⟩)
      clear h h1 h2 h3 hk hdv hp hh hdk hnv hF hn hd hk2 hb2 hpost hi hsame
      go_enter Try.func26, Try.ntmps26
      go_wp2_with (go_at_call 80; refine HT.out.mono ?_; rintro e w' ⟨rfl, rfl⟩)
      go_ret
      exact ⟨_, rfl, rfl, HP.out⟩

set_option maxHeartbeats 400000 in
theorem bfail_any (h : BayAt w b B F) (k : Int) (hcl : ∀ j d, B.dev j = some d → d.disk.cache.length ≤ 1000000) : Calls Try.prog 43 #[.pointer (some ⟨b, 0, none⟩), .int .i64 k] w (Gives (CodePost (B.tcode k) (BayPost w b (B.failed k) F))) := by
  have hsame := Lib.hid (BayPost.same h)
  obtain ⟨bs, ptr, Fs, h⟩ := h
  unfold By.failed
  have HT := Lib.hid (there_any h k)
  rcases h.in_cases k with ⟨h1, h2, h3⟩ | ⟨d, h1, hk, hdv, h3, h2, hi⟩
  · rw [h1]
    rw [h2] at HT
    have hne : (B.tcode k == 0) = false := by simpa using h3
    generalize B.tcode k = c at *
    clear h h1 h2 h3
    go_enter Try.func43, Try.ntmps43
    go_wp2_with (go_at_call 80; refine HT.out.mono ?_; rintro e w' ⟨rfl, rfl⟩)
    go_ret
    exact ⟨_, rfl, rfl, hsame.out⟩
  · rw [h1, h3]
    rw [h2, h3] at HT
    have hd := h.dev (k.toNat * 3)
    rw [hdv] at hd
    obtain ⟨bv, bd, Fd, hp, hh, hdk, hnv, hF⟩ := id hd
    rw [hp] at HT
    have c0 := cell_at hh 0 rfl
    have HF := Lib.hid (fail_any hdk (hcl _ d hdv))
    have HP : Hid (∀ w', DiskPost w bd d.disk.fail Fd w' → BayPost w b (B.setDev (k.toNat * 3) (some { d with disk := d.disk.fail })) F w') := fun w' hq => by
      have := DevPost.disk hh hnv hF hq NoF
      rw [← hp] at this
      exact h.post hi this (h.ok.left _ d hdv)
    clear h h1 h2 h3 hk hdv hp hh hdk hnv hF hd hi hsame hcl
    go_enter Try.func43, Try.ntmps43
    go_wp2_with (first | (go_at_call 80; refine HT.out.mono ?_; rintro e w' ⟨rfl, rfl⟩) | (go_at_call 63; refine HF.out.mono ?_; rintro e w' ⟨v, rfl, rfl, hv⟩; have HV := Lib.hid hv; clear hv))
    go_ret
    exact ⟨_, rfl, rfl, HP.out _ HV.out⟩
end
end Go.Proofs.Ytghnbbpoaeheaaa
