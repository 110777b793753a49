/- The bay's Swap and Load, walked. -/
import Derived.Test.YtghnbbpoaeheaaaLoad
namespace Go.Proofs.Ytghnbbpoaeheaaa
open Go.RowKit

/-- A disk is laid into slot k. -/
def By.lay (B : By) (k : Int) (D : Option Dk) : By := if B.is k then (if B.takenAt (k.toNat * 3) then B else match D with | none => B | some D => B.setDev (k.toNat * 3) (some ⟨D, false, 0⟩)) else B
/-- What the function that makes the disk leaves. -/
def Made (w : World) (D : Option Dk) (v : Value) (w' : World) : Prop := match D with
  | some D => NewDisk w D v w'
  | none => v = .tuple #[.pointer none, .int .u16 40] ∧ w = w'
def SomeCode (Q : World → Prop) (v : Value) (w' : World) : Prop := ∃ c, v = .int .u16 c ∧ Q w'

set_option maxRecDepth 100000 in
set_option maxHeartbeats 1000000 in
theorem lay_97 {w : World} {b : Nat} {B : By} {F : Nat → Prop} (h : BayAt w b B F) (k : Int) (cv : Value) {D : Option Dk} (hm : Calls Try.prog 97 #[cv] w (Gives (Made w D))) :
    Calls Try.prog 96 #[.pointer (some ⟨b, 0, none⟩), .int .i64 k, .func (.func 97) #[] #[cv]] w (Gives (SomeCode (BayPost w b (B.lay k D) F))) := by
  have hb2 := fun (a : Addr) (w : World) => run_build133 (.pointer (some a)) rfl w
  have hsame := Lib.hid (BayPost.same h)
  obtain ⟨bs, ptr, Fs, h⟩ := h
  have HA := Lib.hid (at_any h k)
  unfold By.lay
  by_cases hk : B.is k
  · have hkk : 0 ≤ k ∧ k < B.n := hk
    have es : slotPtr bs B.n k = .pointer (some ⟨bs, k.toNat * 3, none⟩) := by unfold slotPtr; exact if_pos hkk
    rw [es] at HA
    have hq : k.toNat * 3 + 2 < B.n * 3 := by omega
    have HT := Lib.hid (taken_any h (k.toNat * 3) hq)
    rw [if_pos hk]
    cases ht : B.takenAt (k.toNat * 3) with
    | true =>
      rw [if_pos rfl]
      rw [ht] at HT
      clear h hkk es hq hm ht hk
      go_enter Try.func96, Try.ntmps96
      go_wp2_with (first | (go_at_call 92; go_must (refine HA.out.mono ?_); rintro e w' ⟨rfl, rfl⟩) | (go_at_call 93; go_must (refine HT.out.mono ?_); rintro e w' ⟨rfl, rfl⟩))
      go_ret
      exact ⟨_, rfl, _, rfl, hsame.out⟩
    | false =>
      rw [if_neg (by decide)]
      rw [ht] at HT
      cases D with
      | none =>
        have HM : Hid (Calls Try.prog 97 #[cv] w (Gives fun v w' => v = .tuple #[.pointer none, .int .u16 40] ∧ w = w')) := hm
        clear h hkk es hq hm ht hk
        go_enter Try.func96, Try.ntmps96
        go_wp2_with (first | (go_at_call 92; go_must (refine HA.out.mono ?_); rintro e w' ⟨rfl, rfl⟩) | (go_at_call 93; go_must (refine HT.out.mono ?_); rintro e w' ⟨rfl, rfl⟩) | (go_at_call 97; go_must (refine HM.out.mono ?_); rintro e w' ⟨v, rfl, rfl, rfl⟩))
        go_ret
        exact ⟨_, rfl, _, rfl, hsame.out⟩
      | some D =>
        have HM : Hid (Calls Try.prog 97 #[cv] w (Gives (NewDisk w D))) := hm
        have HC : Hid (∀ w2, Keep NoF w w2 → w2.cell? ⟨bs, k.toNat * 3, none⟩ = some (ptr (k.toNat * 3)) ∧ w2.frozen? ⟨bs, k.toNat * 3, none⟩ = false ∧ bs < w2.heap.size) := fun w2 hkp => by
          have hl2 := h.keep hkp (fun _ _ h => h)
          exact ⟨hl2.slot (by omega), free_at hl2.hs _, lt_of_heap hl2.hs⟩
        have HE : Hid (∀ w2 bd Fd, DiskAt w2 bd D Fd → Keep NoF w w2 → (∀ x, Fd x → w.heap.size ≤ x) → BayPost w b (B.setDev (k.toNat * 3) (some ⟨D, false, 0⟩)) F ((w2.alloc (.cells #[.pointer (some ⟨bd, 0, none⟩), .bool false, .int .i64 0] 133)).setCell ⟨bs, k.toNat * 3, none⟩ (.pointer (some ⟨w2.heap.size, 0, none⟩)))) := fun w2 bd Fd hd hkp hFd => by
          have hk3 : Keep NoF w2 (w2.alloc (.cells #[.pointer (some ⟨bd, 0, none⟩), .bool false, .int .i64 0] 133)) := Keep.alloc _ _ _
          have hl3 := (h.keep hkp (fun _ _ h => h)).keep hk3 (fun _ _ h => h)
          have hlt2 := h.lt
          have hsz2 := hkp.size
          have hdev : DevAt (w2.alloc (.cells #[.pointer (some ⟨bd, 0, none⟩), .bool false, .int .i64 0] 133)) (.pointer (some ⟨w2.heap.size, 0, none⟩)) (some { disk := D, worn := false, left := 0 }) (fun x => x = w2.heap.size ∨ Fd x) :=
            ⟨w2.heap.size, bd, Fd, rfl, heap_alloc_new w2 _, hd.keep hk3 (fun _ _ h => h), fun hx => absurd (hd.lt _ hx) (by omega), fun x => Iff.rfl⟩
          have hpl := hl3.place (i := k.toNat * 3) hdev (fun x hx hF => by
            have := hlt2 x hF
            rcases hx with rfl | hx
            · omega
            · have := hFd x hx; omega) (by omega) ⟨by show (0 : Int) ≤ 0; decide, by show (0 : Int) ≤ 9223372036854775807; decide⟩
          have hkk2 : Keep (· = bs) (w2.alloc (.cells #[.pointer (some ⟨bd, 0, none⟩), .bool false, .int .i64 0] 133)) _ := Keep.setCell (F := (· = bs)) _ ⟨bs, k.toNat * 3, none⟩ (.pointer (some ⟨w2.heap.size, 0, none⟩)) rfl
          have hbsF : F bs := (h.hF bs).2 (.inr (.inl rfl))
          refine ⟨_, ⟨bs, _, _, hpl⟩, (((hkp.trans' hk3).mono fun _ _ h => h.elim)).trans' (hkk2.mono fun x _ e => (show x = bs from e) ▸ hbsF), ?_⟩
          rintro x (rfl | rfl | ⟨j, hj⟩)
          · exact .inl ((h.hF _).2 (.inl rfl))
          · exact .inl hbsF
          · by_cases e : j = k.toNat * 3
            · subst e; rw [put_same] at hj
              rcases hj with rfl | hj
              · exact .inr hsz2
              · exact .inr (hFd x hj)
            · rw [put_other _ _ e] at hj
              exact .inl ((h.hF x).2 (.inr (.inr ⟨j, hj⟩)))
        clear h hkk es hq hm ht hk
        go_enter Try.func96, Try.ntmps96
        go_wp2_with (first | (go_at_call 92; go_must (refine HA.out.mono ?_); rintro e w' ⟨rfl, rfl⟩) | (go_at_call 93; go_must (refine HT.out.mono ?_); rintro e w' ⟨rfl, rfl⟩) | (go_at_call 97; go_must (refine HM.out.mono ?_); rintro e w2 ⟨v, rfl, bd, Fd, rfl, hq⟩; have HQ := Lib.hid hq; clear hq; obtain ⟨q1, q2, q3⟩ := HC.out w2 HQ.out.2.1))
        go_ret
        rw [setCell_alloc_comm _ _ _ _ q3]
        exact ⟨_, rfl, _, rfl, HE.out _ _ _ HQ.out.1 HQ.out.2.1 HQ.out.2.2⟩
  · rw [if_neg hk]
    have es : slotPtr bs B.n k = .pointer none := by unfold slotPtr; exact if_neg hk
    rw [es] at HA
    clear h es hk hm
    go_enter Try.func96, Try.ntmps96
    go_wp2_with (go_at_call 92; go_must (refine HA.out.mono ?_); rintro e w' ⟨rfl, rfl⟩)
    go_ret
    exact ⟨_, rfl, _, rfl, hsame.out⟩
set_option maxRecDepth 100000 in
set_option maxHeartbeats 1000000 in
theorem lay_98 {w : World} {b : Nat} {B : By} {F : Nat → Prop} (h : BayAt w b B F) (k : Int) (cv : Value) {D : Option Dk} (hm : Calls Try.prog 98 #[cv] w (Gives (Made w D))) :
    Calls Try.prog 96 #[.pointer (some ⟨b, 0, none⟩), .int .i64 k, .func (.func 98) #[] #[cv]] w (Gives (SomeCode (BayPost w b (B.lay k D) F))) := by
  have hb2 := fun (a : Addr) (w : World) => run_build133 (.pointer (some a)) rfl w
  have hsame := Lib.hid (BayPost.same h)
  obtain ⟨bs, ptr, Fs, h⟩ := h
  have HA := Lib.hid (at_any h k)
  unfold By.lay
  by_cases hk : B.is k
  · have hkk : 0 ≤ k ∧ k < B.n := hk
    have es : slotPtr bs B.n k = .pointer (some ⟨bs, k.toNat * 3, none⟩) := by unfold slotPtr; exact if_pos hkk
    rw [es] at HA
    have hq : k.toNat * 3 + 2 < B.n * 3 := by omega
    have HT := Lib.hid (taken_any h (k.toNat * 3) hq)
    rw [if_pos hk]
    cases ht : B.takenAt (k.toNat * 3) with
    | true =>
      rw [if_pos rfl]
      rw [ht] at HT
      clear h hkk es hq hm ht hk
      go_enter Try.func96, Try.ntmps96
      go_wp2_with (first | (go_at_call 92; go_must (refine HA.out.mono ?_); rintro e w' ⟨rfl, rfl⟩) | (go_at_call 93; go_must (refine HT.out.mono ?_); rintro e w' ⟨rfl, rfl⟩))
      go_ret
      exact ⟨_, rfl, _, rfl, hsame.out⟩
    | false =>
      rw [if_neg (by decide)]
      rw [ht] at HT
      cases D with
      | none =>
        have HM : Hid (Calls Try.prog 98 #[cv] w (Gives fun v w' => v = .tuple #[.pointer none, .int .u16 40] ∧ w = w')) := hm
        clear h hkk es hq hm ht hk
        go_enter Try.func96, Try.ntmps96
        go_wp2_with (first | (go_at_call 92; go_must (refine HA.out.mono ?_); rintro e w' ⟨rfl, rfl⟩) | (go_at_call 93; go_must (refine HT.out.mono ?_); rintro e w' ⟨rfl, rfl⟩) | (go_at_call 98; go_must (refine HM.out.mono ?_); rintro e w' ⟨v, rfl, rfl, rfl⟩))
        go_ret
        exact ⟨_, rfl, _, rfl, hsame.out⟩
      | some D =>
        have HM : Hid (Calls Try.prog 98 #[cv] w (Gives (NewDisk w D))) := hm
        have HC : Hid (∀ w2, Keep NoF w w2 → w2.cell? ⟨bs, k.toNat * 3, none⟩ = some (ptr (k.toNat * 3)) ∧ w2.frozen? ⟨bs, k.toNat * 3, none⟩ = false ∧ bs < w2.heap.size) := fun w2 hkp => by
          have hl2 := h.keep hkp (fun _ _ h => h)
          exact ⟨hl2.slot (by omega), free_at hl2.hs _, lt_of_heap hl2.hs⟩
        have HE : Hid (∀ w2 bd Fd, DiskAt w2 bd D Fd → Keep NoF w w2 → (∀ x, Fd x → w.heap.size ≤ x) → BayPost w b (B.setDev (k.toNat * 3) (some ⟨D, false, 0⟩)) F ((w2.alloc (.cells #[.pointer (some ⟨bd, 0, none⟩), .bool false, .int .i64 0] 133)).setCell ⟨bs, k.toNat * 3, none⟩ (.pointer (some ⟨w2.heap.size, 0, none⟩)))) := fun w2 bd Fd hd hkp hFd => by
          have hk3 : Keep NoF w2 (w2.alloc (.cells #[.pointer (some ⟨bd, 0, none⟩), .bool false, .int .i64 0] 133)) := Keep.alloc _ _ _
          have hl3 := (h.keep hkp (fun _ _ h => h)).keep hk3 (fun _ _ h => h)
          have hlt2 := h.lt
          have hsz2 := hkp.size
          have hdev : DevAt (w2.alloc (.cells #[.pointer (some ⟨bd, 0, none⟩), .bool false, .int .i64 0] 133)) (.pointer (some ⟨w2.heap.size, 0, none⟩)) (some { disk := D, worn := false, left := 0 }) (fun x => x = w2.heap.size ∨ Fd x) :=
            ⟨w2.heap.size, bd, Fd, rfl, heap_alloc_new w2 _, hd.keep hk3 (fun _ _ h => h), fun hx => absurd (hd.lt _ hx) (by omega), fun x => Iff.rfl⟩
          have hpl := hl3.place (i := k.toNat * 3) hdev (fun x hx hF => by
            have := hlt2 x hF
            rcases hx with rfl | hx
            · omega
            · have := hFd x hx; omega) (by omega) ⟨by show (0 : Int) ≤ 0; decide, by show (0 : Int) ≤ 9223372036854775807; decide⟩
          have hkk2 : Keep (· = bs) (w2.alloc (.cells #[.pointer (some ⟨bd, 0, none⟩), .bool false, .int .i64 0] 133)) _ := Keep.setCell (F := (· = bs)) _ ⟨bs, k.toNat * 3, none⟩ (.pointer (some ⟨w2.heap.size, 0, none⟩)) rfl
          have hbsF : F bs := (h.hF bs).2 (.inr (.inl rfl))
          refine ⟨_, ⟨bs, _, _, hpl⟩, (((hkp.trans' hk3).mono fun _ _ h => h.elim)).trans' (hkk2.mono fun x _ e => (show x = bs from e) ▸ hbsF), ?_⟩
          rintro x (rfl | rfl | ⟨j, hj⟩)
          · exact .inl ((h.hF _).2 (.inl rfl))
          · exact .inl hbsF
          · by_cases e : j = k.toNat * 3
            · subst e; rw [put_same] at hj
              rcases hj with rfl | hj
              · exact .inr hsz2
              · exact .inr (hFd x hj)
            · rw [put_other _ _ e] at hj
              exact .inl ((h.hF x).2 (.inr (.inr ⟨j, hj⟩)))
        clear h hkk es hq hm ht hk
        go_enter Try.func96, Try.ntmps96
        go_wp2_with (first | (go_at_call 92; go_must (refine HA.out.mono ?_); rintro e w' ⟨rfl, rfl⟩) | (go_at_call 93; go_must (refine HT.out.mono ?_); rintro e w' ⟨rfl, rfl⟩) | (go_at_call 98; go_must (refine HM.out.mono ?_); rintro e w2 ⟨v, rfl, bd, Fd, rfl, hq⟩; have HQ := Lib.hid hq; clear hq; obtain ⟨q1, q2, q3⟩ := HC.out w2 HQ.out.2.1))
        go_ret
        rw [setCell_alloc_comm _ _ _ _ q3]
        exact ⟨_, rfl, _, rfl, HE.out _ _ _ HQ.out.1 HQ.out.2.1 HQ.out.2.2⟩
  · rw [if_neg hk]
    have es : slotPtr bs B.n k = .pointer none := by unfold slotPtr; exact if_neg hk
    rw [es] at HA
    clear h es hk hm
    go_enter Try.func96, Try.ntmps96
    go_wp2_with (go_at_call 92; go_must (refine HA.out.mono ?_); rintro e w' ⟨rfl, rfl⟩)
    go_ret
    exact ⟨_, rfl, _, rfl, hsame.out⟩
theorem made_97 {w : World} {g : Nat} {n : Int} (hc : w.cell? ⟨g, 0, none⟩ = some (.int .i64 n)) : Calls Try.prog 97 #[.pointer (some ⟨g, 0, none⟩)] w (Gives (Made w (if 1 ≤ n ∧ n ≤ 8192 then some (Dk.new n.toNat) else none))) := by
  have hn := new_any n w
  by_cases h : 1 ≤ n ∧ n ≤ 8192
  · rw [if_pos h]
    simp only [if_pos h] at hn
    have HN := Lib.hid hn
    clear hn
    go_enter Try.func97, Try.ntmps97
    go_wp2_with (go_at_call 35; go_must (refine HN.out.mono ?_); rintro e w2 ⟨v, rfl, bd, Fd, rfl, hq⟩; have HQ := Lib.hid hq; clear hq)
    go_ret2
    exact ⟨_, rfl, _, _, rfl, HQ.out⟩
  · rw [if_neg h]
    simp only [if_neg h] at hn
    have HN := Lib.hid hn
    clear hn
    go_enter Try.func97, Try.ntmps97
    go_wp2_with (go_at_call 35; go_must (refine HN.out.mono ?_); rintro e w2 ⟨v, rfl, rfl, rfl⟩)
    go_ret2
    exact ⟨_, rfl, rfl, rfl⟩
theorem made_98 {w : World} {g : Nat} {x : Option Addr} {cap : Nat} {l : List Int} (hc : w.cell? ⟨g, 0, none⟩ = some (.slice x l.length cap)) (hv : BytesAt w (.slice x l.length cap) l) : Calls Try.prog 98 #[.pointer (some ⟨g, 0, none⟩)] w (Gives (Made w (if loadOk l then some (Dk.of l) else none))) := by
  have hn := load_any hv
  unfold LoadPost at hn
  by_cases h : loadOk l
  · rw [if_pos h]
    simp only [if_pos h] at hn
    have HN := Lib.hid hn
    clear hn hv
    go_enter Try.func98, Try.ntmps98
    go_wp2_with (go_at_call 12; go_must (refine HN.out.mono ?_); rintro e w2 ⟨v, rfl, bd, Fd, rfl, hq⟩; have HQ := Lib.hid hq; clear hq)
    go_ret2
    exact ⟨_, rfl, _, _, rfl, HQ.out⟩
  · rw [if_neg h]
    simp only [if_neg h] at hn
    have HN := Lib.hid hn
    clear hn hv
    go_enter Try.func98, Try.ntmps98
    go_wp2_with (go_at_call 12; go_must (refine HN.out.mono ?_); rintro e w2 ⟨v, rfl, rfl, rfl⟩)
    go_ret2
    exact ⟨_, rfl, rfl, rfl⟩

def By.swap (B : By) (k n : Int) : By := if n < 0 then B else B.lay k (if 1 ≤ n ∧ n ≤ 8192 then some (Dk.new n.toNat) else none)
theorem BayPost.before {w0 w w' : World} {b : Nat} {B' : By} {F : Nat → Prop} (hk : Keep NoF w0 w) (h : BayPost w b B' F w') : BayPost w0 b B' F w' := by
  obtain ⟨F2, g1, g2, g3⟩ := h
  exact ⟨F2, g1, (hk.mono fun _ _ h => h.elim).trans' g2, fun x hx => (g3 x hx).imp id (fun h => Nat.le_trans hk.size h)⟩
set_option maxHeartbeats 1000000 in
theorem swap_any {w : World} {b : Nat} {B : By} {F : Nat → Prop} (h : BayAt w b B F) (k n : Int) : Calls Try.prog 48 #[.pointer (some ⟨b, 0, none⟩), .int .i64 k, .int .i64 n] w (Gives (SomeCode (BayPost w b (B.swap k n) F))) := by
  have hk : Keep NoF w (w.alloc (.cells #[.int .i64 n] 3)) := Keep.alloc _ _ _
  have h' := h.keep hk (fun _ _ h => h)
  have hc : (w.alloc (.cells #[.int .i64 n] 3)).cell? ⟨w.heap.size, 0, none⟩ = some (.int .i64 n) := cell_at (heap_alloc_new w _) 0 rfl
  unfold By.swap
  by_cases hn : n < 0
  · rw [if_pos hn]
    have HP : Hid (BayPost w b B F (w.alloc (.cells #[.int .i64 n] 3))) := BayPost.before hk (BayPost.same h')
    clear h h' hk
    go_enter Try.func48, Try.ntmps48
    go_wp2
    go_ret
    exact ⟨_, rfl, _, rfl, HP.out⟩
  · rw [if_neg hn]
    have HL := Lib.hid (lay_97 h' k _ (made_97 hc))
    have HP : Hid (∀ w', BayPost (w.alloc (.cells #[.int .i64 n] 3)) b (B.lay k (if 1 ≤ n ∧ n ≤ 8192 then some (Dk.new n.toNat) else none)) F w' → BayPost w b (B.lay k (if 1 ≤ n ∧ n ≤ 8192 then some (Dk.new n.toNat) else none)) F w') := fun w' hq => BayPost.before hk hq
    generalize B.lay k (if 1 ≤ n ∧ n ≤ 8192 then some (Dk.new n.toNat) else none) = B' at *
    clear h h' hk
    go_enter Try.func48, Try.ntmps48
    go_wp2_with (go_at_call 96; go_must (refine HL.out.mono ?_); rintro e w' ⟨v, rfl, c, rfl, hv⟩; have HV := Lib.hid (HP.out _ hv); clear hv)
    go_ret
    exact ⟨_, rfl, _, rfl, HV.out⟩

def By.load (B : By) (k : Int) (l : List Int) : By := B.lay k (if loadOk l then some (Dk.of l) else none)
set_option maxHeartbeats 1000000 in
theorem bload_any {w : World} {b : Nat} {B : By} {F : Nat → Prop} (h : BayAt w b B F) (k : Int) {v : Value} {l : List Int} (hv : BytesAt w v l) : Calls Try.prog 49 #[.pointer (some ⟨b, 0, none⟩), .int .i64 k, v] w (Gives (SomeCode (BayPost w b (B.load k l) F))) := by
  obtain ⟨x, cap, rfl, -, -, -⟩ := id hv
  have hk : Keep NoF w (w.alloc (.cells #[.slice x l.length cap] 22)) := Keep.alloc _ _ _
  have h' := h.keep hk (fun _ _ h => h)
  have hc : (w.alloc (.cells #[.slice x l.length cap] 22)).cell? ⟨w.heap.size, 0, none⟩ = some (.slice x l.length cap) := cell_at (heap_alloc_new w _) 0 rfl
  have HL := Lib.hid (lay_98 h' k _ (made_98 hc (hv.keep2 hk (fun _ _ _ _ _ h => h))))
  have HP : Hid (∀ w', BayPost (w.alloc (.cells #[.slice x l.length cap] 22)) b (B.load k l) F w' → BayPost w b (B.load k l) F w') := fun w' hq => BayPost.before hk hq
  change Hid (Calls Try.prog 96 _ _ (Gives (SomeCode (BayPost _ b (B.load k l) F)))) at HL
  generalize B.load k l = B' at *
  clear h h' hk hv
  go_enter Try.func49, Try.ntmps49
  go_wp2_with (go_at_call 96; go_must (refine HL.out.mono ?_); rintro e w' ⟨v, rfl, c, rfl, hv⟩; have HV := Lib.hid (HP.out _ hv); clear hv)
  go_ret
  exact ⟨_, rfl, _, rfl, HV.out⟩
end Go.Proofs.Ytghnbbpoaeheaaa
