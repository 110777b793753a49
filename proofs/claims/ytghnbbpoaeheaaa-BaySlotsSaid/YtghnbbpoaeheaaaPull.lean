/- The bay's Pull, walked: a disk goes from its slot aside. -/
import Derived.Test.YtghnbbpoaeheaaaTripLaw
namespace Go.Proofs.Ytghnbbpoaeheaaa
open Go.RowKit

/-- Disks go from place to place: at j stands what stood at σ j, or nothing. -/
def moved {α : Type} (σ : Nat → Option Nat) (f : Nat → α) (z : α) : Nat → α := fun j => match σ j with | none => z | some s => f s
theorem BayLies.shuffle {w w' : World} {b : Nat} {B : By} {F : Nat → Prop} {bs : Nat} {ptr : Nat → Value} {Fs : Nat → Nat → Prop} (h : BayLies w b B F bs ptr Fs) (hk : Keep (· = bs) w w') (σ : Nat → Option Nat) (hσ : ∀ i j s, σ i = some s → σ j = some s → i = j)
    (hout : ∀ j, B.n * 3 ≤ j → σ j = some j) (hs : w'.heap[bs]? = some (.cells ((List.range (B.n * 3)).map (moved σ ptr (.pointer none))).toArray 135 (0, 0))) :
    BayLies w' b { B with dev := moved σ B.dev none } (fun x => x = b ∨ x = bs ∨ ∃ j, moved σ Fs (fun _ => False) j x) bs (moved σ ptr (.pointer none)) (moved σ Fs (fun _ => False)) := by
  have hbs : b ≠ bs := ne_of_elem h.hb h.hs (by decide)
  refine ⟨hk.at h.hb hbs, hs, fun j => ?_, fun a c x hac ha hc => ?_, fun j hj => ?_, fun j hj => ?_, fun x => Iff.rfl, ⟨h.ok.pos, h.ok.le, fun j hj => ?_, fun j d hd => ?_, h.ok.trip⟩⟩
  · show DevAt w' (moved σ ptr (.pointer none) j) (moved σ B.dev none j) (moved σ Fs (fun _ => False) j)
    unfold moved
    cases hj : σ j with
    | none =>
      show DevAt w' (.pointer none) none (fun _ => False)
      exact ⟨rfl, fun _ h => h⟩
    | some s => exact (h.dev s).keep hk (fun x hx e => h.owns s (e ▸ hx))
  · unfold moved at ha hc
    cases h1 : σ a with
    | none => rw [h1] at ha; exact ha
    | some s =>
      rw [h1] at ha
      cases h2 : σ c with
      | none => rw [h2] at hc; exact hc
      | some t =>
        rw [h2] at hc
        refine h.apart s t x (fun e => ?_) ha hc
        subst e
        exact hac (hσ _ _ _ h1 h2)
  · unfold moved at hj
    cases h1 : σ j with
    | none => rw [h1] at hj; exact hj
    | some s => rw [h1] at hj; exact h.ownb s hj
  · unfold moved at hj
    cases h1 : σ j with
    | none => rw [h1] at hj; exact hj
    | some s => rw [h1] at hj; exact h.owns s hj
  · show moved σ B.dev none j = none
    unfold moved
    rw [hout j hj]
    exact h.ok.out j hj
  · unfold moved at hd
    simp only at hd
    cases h1 : σ j with
    | none => rw [h1] at hd; cases hd
    | some s => rw [h1] at hd; exact h.ok.left s d hd

/-- A disk of slot k goes aside. -/
def aside (q : Nat) : Nat → Option Nat := fun j => if j = q + 1 then some q else if j = q then none else some j
def By.pull (B : By) (k : Int) : By := match B.in k with
  | none => B
  | some d => { B.setDev (k.toNat * 3) (some { d with disk := d.disk.crash [] }) with dev := moved (aside (k.toNat * 3)) (B.setDev (k.toNat * 3) (some { d with disk := d.disk.crash [] })).dev none }

set_option maxRecDepth 100000 in
set_option maxHeartbeats 1000000 in
theorem pull_any {w : World} {b : Nat} {B : By} {F : Nat → Prop} (h : BayAt w b B F) (k : Int) (hcl : ∀ j d, B.dev j = some d → d.disk.cache.length ≤ 1000000) : Calls Try.prog 44 #[.pointer (some ⟨b, 0, none⟩), .int .i64 k] w (Gives (CodePost (B.tcode k) (BayPost w b (B.pull k) F))) := by
  have hsame := Lib.hid (BayPost.same h)
  obtain ⟨bs, ptr, Fs, h⟩ := h
  unfold By.pull
  have HT := Lib.hid (there_any h k)
  rcases h.in_cases k with ⟨h1, h2, h3⟩ | ⟨d, h1, hk, hdv, h3, h2, hi⟩
  · rw [h1]
    rw [h2] at HT
    have hne : (B.tcode k == 0) = false := by simpa using h3
    generalize B.tcode k = c at *
    clear h h1 h2 h3 hcl
    go_enter Try.func44, Try.ntmps44
    go_wp2_with (go_at_call 80; refine HT.out.mono ?_; rintro e w' ⟨rfl, rfl⟩)
    go_ret
    exact ⟨_, rfl, rfl, hsame.out⟩
  · rw [h1, h3]
    rw [h2, h3] at HT
    have hd := h.dev (k.toNat * 3)
    rw [hdv] at hd
    obtain ⟨bv, bd, Fd, hp, hh, hdk, hnv, hF⟩ := id hd
    rw [hp] at HT
    have c0 := cell_at hh 0 rfl
    have HC := Lib.hid (crash_any hdk (.slice none 0 0) [] (BoolsAt.nil _) (fun a' n c' he => by simp at he) (hcl _ d hdv))
    have hkk : 0 ≤ k ∧ k < B.n := hk
    have HP : Hid (∀ w', DiskPost w bd (d.disk.crash []) Fd w' → (∃ v3 v4, w'.cell? ⟨bs, k.toNat * 3, none⟩ = some v3 ∧ w'.cell? ⟨bs, k.toNat * 3 + 1, none⟩ = some v4) ∧ w'.frozen? ⟨bs, k.toNat * 3, none⟩ = false ∧ w'.frozen? ⟨bs, k.toNat * 3 + 1, none⟩ = false ∧ bs < w'.heap.size ∧
        Hid (Calls Try.prog 92 #[.pointer (some ⟨b, 0, none⟩), .int .i64 k] w' fun e w'' => e = .returned (.pointer (some ⟨bs, k.toNat * 3, none⟩)) ∧ w' = w'') ∧
        Hid (BayPost w b { B.setDev (k.toNat * 3) (some { d with disk := d.disk.crash [] }) with dev := moved (aside (k.toNat * 3)) (B.setDev (k.toNat * 3) (some { d with disk := d.disk.crash [] })).dev none } F ((w'.setCell ⟨bs, k.toNat * 3, none⟩ (.pointer none)).setCell ⟨bs, k.toNat * 3 + 1, none⟩ (.pointer (some ⟨bv, 0, none⟩))))) := fun w' hq => by
      have hdp := DevPost.disk hh hnv hF hq NoF
      rw [← hp] at hdp
      obtain ⟨F', g1, g2, g3⟩ := hdp
      have hkK : Keep (Fs (k.toNat * 3)) w w' := g2.mono fun x _ hx => hx.resolve_right (fun h => h)
      have hl := h.redev hkK g1 g3 hi (fun e he => (Option.some.inj he) ▸ h.ok.left _ d hdv)
      have hFF := h.redev_F (w' := w') g3
      have hAt := at_any hl k
      have es : slotPtr bs (B.setDev (k.toNat * 3) (some { d with disk := d.disk.crash [] })).n k = .pointer (some ⟨bs, k.toNat * 3, none⟩) := by unfold slotPtr; exact if_pos hkk
      rw [es] at hAt
      have hkk2 : Keep (· = bs) w' ((w'.setCell ⟨bs, k.toNat * 3, none⟩ (.pointer none)).setCell ⟨bs, k.toNat * 3 + 1, none⟩ (.pointer (some ⟨bv, 0, none⟩))) := (Keep.setCell (F := (· = bs)) w' ⟨bs, k.toNat * 3, none⟩ (.pointer none) rfl).trans' (Keep.setCell (F := (· = bs)) _ ⟨bs, k.toNat * 3 + 1, none⟩ (.pointer (some ⟨bv, 0, none⟩)) rfl)
      have hs2 := heap_setCell_same _ bs (k.toNat * 3 + 1) _ _ (.pointer (some ⟨bv, 0, none⟩)) (heap_setCell_same w' bs (k.toNat * 3) _ _ (.pointer none) hl.hs)
      rw [map_put, map_put] at hs2
      have ep : put (put ptr (k.toNat * 3) (.pointer none)) (k.toNat * 3 + 1) (.pointer (some ⟨bv, 0, none⟩)) = moved (aside (k.toNat * 3)) ptr (.pointer none) := by
        funext j
        unfold put moved aside
        by_cases h1 : j = k.toNat * 3 + 1
        · rw [if_pos h1, if_pos h1]; exact hp.symm
        · rw [if_neg h1, if_neg h1]
          by_cases h2 : j = k.toNat * 3
          · rw [if_pos h2, if_pos h2]
          · rw [if_neg h2, if_neg h2]
      rw [ep] at hs2
      have hsh := hl.shuffle hkk2 (aside (k.toNat * 3)) (fun i j s h1 h2 => by
        unfold aside at h1 h2
        split at h1 <;> split at h2 <;> simp at h1 h2 <;> omega) (fun j hj => by
        unfold aside
        have hj' : B.n * 3 ≤ j := hj
        rw [if_neg (by omega), if_neg (by omega)]) hs2
      have hbsF : F bs := (h.hF bs).2 (.inr (.inl rfl))
      have hwlt := h.lt
      refine ⟨⟨_, _, hl.slot (j := k.toNat * 3) hi, hl.slot (j := k.toNat * 3 + 1) (by show _ < B.n * 3; omega)⟩, free_at hl.hs _, free_at hl.hs _, lt_of_heap hl.hs, hAt, ⟨_, ⟨bs, _, _, hsh⟩, ?_, ?_⟩⟩
      · exact (hkK.mono fun x _ hx => (h.hF x).2 (.inr (.inr ⟨_, hx⟩))).trans hkk2 (fun x _ e => (show x = bs from e) ▸ hbsF)
      · rintro x (rfl | rfl | ⟨j, hj⟩)
        · exact .inl ((h.hF _).2 (.inl rfl))
        · exact .inl hbsF
        · unfold moved at hj
          cases h1 : aside (k.toNat * 3) j with
          | none => rw [h1] at hj; exact hj.elim
          | some s => rw [h1] at hj; exact hFF x (.inr (.inr ⟨s, hj⟩))
    generalize k.toNat * 3 = q at *
    clear h h1 h2 h3 hk hdv hp hh hdk hnv hF hd hi hsame hcl hkk
    go_enter Try.func44, Try.ntmps44
    go_wp2_with (first | (go_at_call 80; refine HT.out.mono ?_; rintro e w' ⟨rfl, rfl⟩) | (go_at_call 39; go_must (refine HC.out.mono ?_); rintro e w' ⟨v, rfl, rfl, hv⟩; obtain ⟨⟨v3, v4, r3, r4⟩, f3, f4, hbs, HA, HQ⟩ := HP.out _ hv; clear hv) | (go_at_call 92; go_must (refine HA.out.mono ?_); rintro e w'' ⟨rfl, rfl⟩))
    go_ret
    exact ⟨_, rfl, rfl, HQ.out⟩
end Go.Proofs.Ytghnbbpoaeheaaa
