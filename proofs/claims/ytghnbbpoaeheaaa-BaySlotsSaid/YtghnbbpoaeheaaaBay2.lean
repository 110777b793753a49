/- The bay's functions, walked: use, and what operate does with a disk. -/
import Derived.Test.YtghnbbpoaeheaaaBay1
namespace Go.Proofs.Ytghnbbpoaeheaaa
open Go.RowKit

/-- One operation more of a disk that may be worn. -/
def Dev.use (d : Dev) : Dev := if d.worn then (if d.left = 0 then { disk := d.disk.fail, worn := false, left := d.left } else { d with left := d.left - 1 }) else d
/-- The device is another one now; G: what else may have turned. -/
def DevPost (w : World) (v : Value) (d' : Dev) (F G : Nat → Prop) (w' : World) : Prop :=
  ∃ F', DevAt w' v (some d') F' ∧ Keep (fun x => F x ∨ G x) w w' ∧ ∀ x, F' x → F x ∨ w.heap.size ≤ x
theorem DevPost.same {w : World} {v : Value} {d : Dev} {F G : Nat → Prop} (h : DevAt w v (some d) F) : DevPost w v d F G w := ⟨F, h, Keep.refl _ _, fun _ hx => .inl hx⟩

theorem DevPost.disk {w : World} {bv bd : Nat} {d : Dev} {Fd F : Nat → Prop} (hh : w.heap[bv]? = some (.cells #[.pointer (some ⟨bd, 0, none⟩), .bool d.worn, .int .i64 d.left] 133 (0, 0))) (hn : ¬ Fd bv) (hF : ∀ x, F x ↔ x = bv ∨ Fd x)
    {D' : Dk} {w' : World} (hp : DiskPost w bd D' Fd w') (G : Nat → Prop) : DevPost w (.pointer (some ⟨bv, 0, none⟩)) { d with disk := D' } F G w' := by
  obtain ⟨F', h1, h2, h3⟩ := hp
  refine ⟨fun x => x = bv ∨ F' x, ⟨bv, bd, F', rfl, h2.at hh hn, h1, fun hx => ?_, fun x => Iff.rfl⟩, h2.mono fun x _ hx => .inl ((hF x).2 (.inr hx)), ?_⟩
  · rcases h3 _ hx with hx | hx
    · exact hn hx
    · have := lt_of_heap hh; omega
  · rintro x (rfl | hx)
    · exact .inl ((hF _).2 (.inl rfl))
    · exact (h3 x hx).imp (fun h => (hF x).2 (.inr h)) id

set_option maxHeartbeats 400000 in
theorem use_any {w : World} {v : Value} {d : Dev} {F : Nat → Prop} (h : DevAt w v (some d) F) (hcl : d.disk.cache.length ≤ 1000000) (hl : 0 ≤ d.left ∧ d.left ≤ 9223372036854775807) :
    Calls Try.prog 103 #[v] w (Gives fun r w' => r = .tuple #[] ∧ DevPost w v d.use F NoF w') := by
  obtain ⟨bv, bd, Fd, rfl, hh, hdk, hn, hF⟩ := id h
  have c0 := cell_at hh 0 rfl
  have c1 := cell_at hh 1 rfl
  have c2 := cell_at hh 2 rfl
  have f2 := free_at hh 2
  unfold Dev.use
  cases hw : d.worn with
  | false =>
    rw [if_neg (by decide)]
    rw [hw] at c1
    have HP := Lib.hid (DevPost.same (G := NoF) h)
    clear h hh hdk hn hF c0 c2 f2 hw hcl hl
    go_enter Try.func103, Try.ntmps103
    go_wp2
    go_end0
    exact ⟨_, rfl, rfl, HP.out⟩
  | true =>
    rw [if_pos rfl]
    rw [hw] at c1
    by_cases h0 : d.left = 0
    · rw [if_pos h0]
      rw [h0] at c2
      have HF := Lib.hid (fail_any hdk hcl)
      have HP : Hid (∀ w', DiskPost w bd d.disk.fail Fd w' → (w'.cell? ⟨bv, 1, none⟩ = some (.bool true) ∧ w'.frozen? ⟨bv, 1, none⟩ = false) ∧ DevPost w (.pointer (some ⟨bv, 0, none⟩)) { disk := d.disk.fail, worn := false, left := d.left } F NoF (w'.setCell ⟨bv, 1, none⟩ (.bool false))) := by
        rintro w' ⟨F', h1, h2, h3⟩
        have hh' := h2.at hh hn
        have hnb : ¬ F' bv := fun hx => by
          rcases h3 _ hx with hx | hx
          · exact hn hx
          · have := lt_of_heap hh; omega
        have hk : Keep (· = bv) w' (w'.setCell ⟨bv, 1, none⟩ (.bool false)) := Keep.setCell _ _ _ rfl
        have hb := heap_setCell_same w' bv 1 _ _ (.bool false) hh'
        refine ⟨⟨by have := cell_at hh' 1 rfl; rw [hw] at this; exact this, free_at hh' 1⟩, fun x => x = bv ∨ F' x, ⟨bv, bd, F', rfl, by simpa using hb, h1.keep hk (fun x hx e => hnb (e ▸ hx)), hnb, fun x => Iff.rfl⟩, (h2.mono fun x _ hx => .inl ((hF x).2 (.inr hx))).trans hk (fun x _ e => .inl ((hF x).2 (.inl e))), ?_⟩
        rintro x (rfl | hx)
        · exact .inl ((hF _).2 (.inl rfl))
        · exact (h3 x hx).imp (fun h => (hF x).2 (.inr h)) id
      clear h hh hdk hn hF hw h0 hcl hl f2
      go_enter Try.func103, Try.ntmps103
      go_wp2_with (go_at_call 63; refine HF.out.mono ?_; rintro e w' ⟨v, rfl, rfl, hv⟩; have HV := Lib.hid hv; clear hv; obtain ⟨⟨e1, e2⟩, _⟩ := HP.out _ HV.out)
      go_end0
      exact ⟨_, rfl, rfl, (HP.out _ HV.out).2⟩
    · rw [if_neg h0]
      have hp : 0 < d.left := by omega
      rw [hw] at hh
      have hb := heap_setCell_same w bv 2 _ _ (.int .i64 (d.left - 1)) hh
      have hk : Keep (· = bv) w (w.setCell ⟨bv, 2, none⟩ (.int .i64 (d.left - 1))) := Keep.setCell _ _ _ rfl
      have HP : Hid (DevPost w (.pointer (some ⟨bv, 0, none⟩)) { disk := d.disk, worn := true, left := d.left - 1 } F NoF (w.setCell ⟨bv, 2, none⟩ (.int .i64 (d.left - 1)))) :=
        ⟨F, ⟨bv, bd, Fd, rfl, by simpa using hb, hdk.keep hk (fun x hx e => hn (e ▸ hx)), hn, hF⟩, hk.mono fun x _ e => .inl ((hF x).2 (.inl e)), fun _ hx => .inl hx⟩
      have hne : (d.left == 0) = false := by simpa using h0
      obtain ⟨hl1, hl2⟩ := hl
      clear h hh hdk hn hF h0 hcl hb hk c0
      generalize d.left = l at *
      go_enter Try.func103, Try.ntmps103
      go_wp2
      go_end0
      exact ⟨_, rfl, rfl, HP.out⟩

/-! ### what is done with the disk -/
set_option maxHeartbeats 400000 in
theorem do_flush {w : World} {v : Value} {d : Dev} {F : Nat → Prop} (h : DevAt w v (some d) F) (hcl : d.disk.cache.length ≤ 1000000) :
    Calls Try.prog 91 #[v] w (Gives (CodePost d.disk.fcode (DevPost w v { d with disk := d.disk.flush } F NoF))) := by
  obtain ⟨bv, bd, Fd, rfl, hh, hdk, hn, hF⟩ := id h
  have c0 := cell_at hh 0 rfl
  have HF := Lib.hid (flush_any hdk hcl)
  have HP : Hid (∀ w', DiskPost w bd d.disk.flush Fd w' → DevPost w (.pointer (some ⟨bv, 0, none⟩)) { d with disk := d.disk.flush } F NoF w') := fun w' hp => DevPost.disk hh hn hF hp NoF
  clear h hh hdk hn hF hcl
  go_enter Try.func91, Try.ntmps91
  go_wp2_with (go_at_call 38; refine HF.out.mono ?_; rintro e w' ⟨v, rfl, rfl, hv⟩; have HV := Lib.hid hv; clear hv)
  go_ret
  exact ⟨_, rfl, rfl, HP.out _ HV.out⟩

set_option maxHeartbeats 400000 in
theorem do_write {w : World} {v : Value} {d : Dev} {F : Nat → Prop} (h : DevAt w v (some d) F) (b1 b2 : Nat) (at_ : Int) (x : Value) (xs : List Int) (h1 : w.cell? ⟨b1, 0, none⟩ = some (.int .i64 at_)) (h2 : w.cell? ⟨b2, 0, none⟩ = some x)
    (hx : BytesAt w x xs) (hcl : d.disk.cache.length ≤ 1000000) (hb1 : ¬ F b1) (hb2 : ¬ F b2) :
    Calls Try.prog 89 #[v, .pointer (some ⟨b1, 0, none⟩), .pointer (some ⟨b2, 0, none⟩)] w (Gives (CodePost (d.disk.wcode at_ xs.length) (DevPost w v { d with disk := d.disk.write at_ xs } F NoF))) := by
  obtain ⟨bv, bd, Fd, rfl, hh, hdk, hn, hF⟩ := id h
  have c0 := cell_at hh 0 rfl
  have hkd : Keep NoF w w.drew := Keep.drew _ _
  have hkq : ∀ nq, Keep NoF w (w.drewN nq) := fun nq => Keep.drewN _ _ _
  have HF := Lib.hid (fun nq => write_any (hdk.keep (hkq nq) (fun _ _ h => h)) at_ x xs (hx.keep (hkq nq) (fun _ _ _ _ h => h)) hcl)
  have HF2 := Lib.hid (write_any (hdk.keep hkd (fun _ _ h => h)) at_ x xs (hx.keep hkd (fun _ _ _ _ h => h)) hcl)
  have HP : Hid (∀ w', DiskPost w.drew bd (d.disk.write at_ xs) Fd w' → DevPost w (.pointer (some ⟨bv, 0, none⟩)) { d with disk := d.disk.write at_ xs } F NoF w') := fun w' hp => by
    refine DevPost.disk hh hn hF ?_ NoF
    obtain ⟨F', p1, p2, p3⟩ := hp
    exact ⟨F', p1, (Keep.drew _ w).trans' p2, p3⟩
  have HS : Hid (∀ w', DiskPost w.drew bd (d.disk.write at_ xs) Fd w' → w'.cell? ⟨bv, 0, none⟩ = some (.pointer (some ⟨bd, 0, none⟩)) ∧ w'.cell? ⟨b1, 0, none⟩ = some (.int .i64 at_) ∧ w'.cell? ⟨b2, 0, none⟩ = some x) := by
    rintro w' ⟨F', p1, p2, p3⟩
    have hs : ∀ c v, w.cell? ⟨c, 0, none⟩ = some v → ¬ Fd c → w'.cell? ⟨c, 0, none⟩ = some v := fun c v hc hnc => (World.cell?_of_block (w := w) (((Keep.drew _ w).trans' p2).block c (World.block_lt_of_cell? w _ hc) hnc)).trans hc
    exact ⟨hs _ _ c0 hn, hs _ _ h1 (fun hx => hb1 ((hF _).2 (.inr hx))), hs _ _ h2 (fun hx => hb2 ((hF _).2 (.inr hx)))⟩
  obtain ⟨a, cap, rfl, _⟩ := hx
  clear h hh hdk hn hF hcl hkd hkq hb1 hb2 HF
  go_enter Try.func89, Try.ntmps89
  go_wp2_with fail
  go_region_held3 (fun w' => w'.cell? ⟨bv, 0, none⟩ = some (.pointer (some ⟨bd, 0, none⟩)) ∧ w'.cell? ⟨b1, 0, none⟩ = some (.int .i64 at_) ∧ w'.cell? ⟨b2, 0, none⟩ = some (.slice a xs.length cap)) (first | exact HS.out _ HV.out | go_keep) (first | (go_at_call 37; refine HF2.out.mono ?_; rintro e w' ⟨v, rfl, rfl, hv⟩; have HV := Lib.hid hv; clear hv))
  go_wp2
  go_ret
  exact ⟨_, rfl, rfl, HP.out _ HV.out⟩
end Go.Proofs.Ytghnbbpoaeheaaa
