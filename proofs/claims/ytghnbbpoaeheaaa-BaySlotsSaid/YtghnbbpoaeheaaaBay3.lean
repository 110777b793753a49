/- The bay's functions, walked: what Read does with a disk. -/
import Derived.Test.YtghnbbpoaeheaaaBay2
namespace Go.Proofs.Ytghnbbpoaeheaaa
open Go.RowKit

/-- What Read's closure leaves: the bytes behind its variable. -/
def ReadLeft (w : World) (b2 : Nat) (l : List Int) (w' : World) : Prop :=
  ∃ s, w'.heap[b2]? = some (.cells #[s] 22 (0, 0)) ∧ OwnB w' w.heap.size s l ∧ Keep (· = b2) w w'

set_option maxHeartbeats 400000 in
theorem do_read {w : World} {v : Value} {d : Dev} {F : Nat → Prop} (h : DevAt w v (some d) F) (b1 b2 : Nat) (at_ : Int) (h1 : w.cell? ⟨b1, 0, none⟩ = some (.int .i64 at_)) (h2 : w.heap[b2]? = some (.cells #[.slice none 0 0] 22 (0, 0)))
    (h12 : b1 ≠ b2) (hb2 : ¬ F b2) :
    Calls Try.prog 95 #[v, .pointer (some ⟨b1, 0, none⟩), .pointer (some ⟨b2, 0, none⟩)] w (Gives (CodePost (d.disk.code at_) (ReadLeft w b2 (d.disk.read at_)))) := by
  obtain ⟨bv, bd, Fd, rfl, hh, hdk, hn, hF⟩ := id h
  have c0 := cell_at hh 0 rfl
  have hbv : bv ≠ b2 := fun e => hb2 ((hF _).2 (.inl e.symm))
  have hkd : Keep NoF w w.drew := Keep.drew _ _
  have hr : Calls Try.prog 36 #[.pointer (some ⟨bd, 0, none⟩), .int .i64 at_] w.drew fun e w' => ∃ a c, e = .returned (.tuple #[.slice a (d.disk.read at_).length c, .int .u16 (d.disk.code at_)]) ∧
      Hid (OwnB w' w.heap.size (.slice a (d.disk.read at_).length c) (d.disk.read at_) ∧ Keep NoF w w') := by
    refine (read_any (hdk.keep hkd (fun _ _ h => h)) at_).mono ?_
    rintro e w' ⟨v, rfl, s, rfl, ho, hk⟩
    obtain ⟨a, c, rfl⟩ := own_form ho
    exact ⟨a, c, rfl, ho, hkd.trans' hk⟩
  have HR := Lib.hid hr
  have HS : Hid (∀ w', Keep NoF w w' → w'.cell? ⟨bv, 0, none⟩ = some (.pointer (some ⟨bd, 0, none⟩)) ∧ w'.cell? ⟨b1, 0, none⟩ = some (.int .i64 at_)) := fun w' hk => by
    have hs : ∀ c v, w.cell? ⟨c, 0, none⟩ = some v → w'.cell? ⟨c, 0, none⟩ = some v := fun c v hc => (World.cell?_of_block (w := w) (hk.block c (World.block_lt_of_cell? w _ hc) (fun h => h))).trans hc
    exact ⟨hs _ _ c0, hs _ _ h1⟩
  have HX : Hid (∀ w', Keep NoF w w' → w'.cell? ⟨b2, 0, none⟩ = some (.slice none 0 0) ∧ w'.frozen? ⟨b2, 0, none⟩ = false) := fun w' hk => by
    have := hk.at h2 (fun h => h)
    exact ⟨cell_at this 0 rfl, free_at this 0⟩
  have HS2 : Hid (∀ w' u, Keep NoF w w' → (w'.setCell ⟨b2, 0, none⟩ u).cell? ⟨bv, 0, none⟩ = some (.pointer (some ⟨bd, 0, none⟩)) ∧ (w'.setCell ⟨b2, 0, none⟩ u).cell? ⟨b1, 0, none⟩ = some (.int .i64 at_)) := fun w' u hk => by
    obtain ⟨e1, e2⟩ := HS.out w' hk
    exact ⟨(World.cell?_of_block (w := w') (Below.heap_setCell w' ⟨b2, 0, none⟩ u bv hbv)).trans e1, (World.cell?_of_block (w := w') (Below.heap_setCell w' ⟨b2, 0, none⟩ u b1 h12)).trans e2⟩
  have HE : Hid (∀ w' a n c, OwnB w' w.heap.size (.slice a n c) (d.disk.read at_) → Keep NoF w w' → ReadLeft w b2 (d.disk.read at_) (w'.setCell ⟨b2, 0, none⟩ (.slice a n c))) := fun w' a n c ho hk => by
    have h2' := hk.at h2 (fun h => h)
    have hk2 : Keep (· = b2) w' (w'.setCell ⟨b2, 0, none⟩ (.slice a n c)) := Keep.setCell _ _ _ rfl
    refine ⟨.slice a n c, by simpa using heap_setCell_same w' b2 0 _ _ (.slice a n c) h2', ownsRow_keep ho hk2 (fun x hx e => ?_), (hk.mono (G := (· = b2)) (fun _ _ h => h.elim)).trans' hk2⟩
    have := ownBlock_ge ho hx
    have e2 : x = b2 := e
    have := lt_of_heap h2
    omega
  clear h hh hdk hn hF hkd hb2 hr h2 h12 hbv
  generalize d.disk.read at_ = l at *
  generalize d.disk.code at_ = cc at *
  go_enter Try.func95, Try.ntmps95
  go_wp2_with fail
  go_region_held3 (fun w' => w'.cell? ⟨bv, 0, none⟩ = some (.pointer (some ⟨bd, 0, none⟩)) ∧ w'.cell? ⟨b1, 0, none⟩ = some (.int .i64 at_)) (first | exact HS.out _ HV.out.2 | exact HS2.out _ _ HV.out.2 | go_keep) (first | (go_at_call 36; refine HR.out.mono ?_; rintro e w' ⟨a, c, rfl, HV⟩; obtain ⟨e1, e2⟩ := HX.out _ HV.out.2))
  go_wp2
  go_ret
  exact ⟨_, rfl, rfl, HE.out _ _ _ _ HV.out.1 HV.out.2⟩
end Go.Proofs.Ytghnbbpoaeheaaa
