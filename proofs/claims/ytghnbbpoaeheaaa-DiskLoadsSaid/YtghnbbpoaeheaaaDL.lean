/- DiskLoads: the statement, out of the walk. -/
import Derived.Test.YtghnbbpoaeheaaaDL24
import Derived.OpenShut
namespace Go.Proofs.Ytghnbbpoaeheaaa
open Go.RowKit Go.ChangeShapes Go.WideShapes Go.ChangeAt

theorem ownTry : ownKnob Try.prog.godebug = none := by kernel_rfl
theorem laidTry : laidOutB Try.prog = true := by kernel_rfl
theorem below_old {W w : World} (h : Keep (Old W) W w) : Below W.heap.size W w := h.below W.heap.size (Nat.le_refl _) (fun _ hx => hx)

set_option maxRecDepth 100000 in
set_option maxHeartbeats 800000 in
theorem diskLoads_lifted (os : Os) (started : os.Started) (H : Type) (enc : TypeId × Value → H) :
    ReturnsInHanded {} Try.checked os 3 .any (Rows.diskLoadsSpec.pre6 enc Try.prog Try.f3 Rows.diskLoadsRow.domain false) (Rows.diskLoadsSpec.post enc Try.prog Try.f3 false true false false) := by
  refine returnsInHanded_of_change_sized (C := Try.checked) ownTry started (by kernel_rfl) Try.func3
    (ChangeSpec.witness6 (enc := enc) (C := Try.checked) false ⟨#[], #[.slice none 0 0, .slice none 0 0], []⟩ 8 (by kernel_rfl) (by kernel_rfl) (by kernel_rfl) (by kernel_rfl)) ?_
  intro W base args ds gs before hval0 hW _ hsz0 _
  have hval : ∀ (j : Nat) t v, Try.f3.params[j]? = some t → args[j]? = some v → Value.okWide Try.prog W .any base t v := hval0
  have hsz : (DataW.weightsEach Try.prog (Try.f3.params.toList ++ Rows.diskLoadsSpec.plain.varTypes Try.prog) (ds ++ gs)).all (· ≤ reachBytes) = true := hsz0
  have hW' := hW
  obtain ⟨p, q, hA0, hV, rfl, _, _⟩ := hW
  have hA : DataW.TrodAll enc Try.prog W 0 (fun _ => true) true Try.f3.params.toList args.toList ds p := hA0
  rw [Try.params3] at hA hval hsz
  obtain ⟨v0, vs0, d0, ds0, p0, q0, hargs, rfl, rfl, h0, r0⟩ := trodAll_cons hA
  obtain ⟨v1, vs1, d1, ds1, p1, q1, rfl, rfl, rfl, h1, r1⟩ := trodAll_cons r0
  obtain ⟨rfl, rfl, rfl⟩ := trodAll_nil r1
  obtain rfl : args = #[v0, v1] := by cases args; simp_all
  obtain ⟨rfl, rfl⟩ := trodVars_none hV
  have hfit : ∀ (j : Nat) (t : TypeId) (d : DataW H), ([22, 23] : List TypeId)[j]? = some t → [d0, d1][j]? = some d → Fits t d := fun j t d ht hd n hn => by
    have := List.all_eq_true.1 hsz n (DataW.weights_mem_each (j := j) (t := t) (d := d) ht hd n hn)
    simpa using this
  obtain ⟨fuel0, hf0⟩ := trod_one Try.underlying22 (hval 0 22 v0 rfl rfl) h0
  obtain ⟨image, hb, hbl⟩ := open_bytes hf0 (hfit 0 _ _ rfl rfl)
  obtain ⟨fuel1, hf1⟩ := trod_one Try.underlying23 (hval 1 23 v1 rfl rfl) h1
  obtain ⟨acts, ho⟩ := open_acts hf1 (hfit 1 _ _ rfl rfl)
  clear hA0 hval0
  have hlt : ∀ x, (x ∈ p0 ∨ x ∈ p1) → x.block < W.heap.size := fun x hx => by
    refine hW'.lt x ?_
    simp only [List.append_nil, List.mem_append]
    simpa using hx
  refine (loads_any hb ho).mono fun e W' hg => ?_
  obtain ⟨v, rfl, rfl, hkk⟩ := hg
  have hb := below_old hkk
  have g0 : DataW.Trod enc Try.prog W' 0 (fun b => decide (b < W.heap.size)) true 22 v0 d0 p0 := Below.trod laidTry (by kernel_rfl) (of_decide_eq_true (by kernel_rfl)) h0 hb (fun x hx => hlt x (.inl hx))
  have g1 : DataW.Trod enc Try.prog W' 0 (fun b => decide (b < W.heap.size)) true 23 v1 d1 p1 := Below.trod laidTry (by kernel_rfl) (of_decide_eq_true (by kernel_rfl)) h1 hb (fun x hx => hlt x (.inr hx))
  have hres : DataW.TrodAll enc Try.prog W' W.heap.size (fun _ => false) false [4] [.bool true] [.lit (.bool true)] [] := trodAll_mk1 (shut_bool Try.underlying4 true)
  have hargs : DataW.TrodAll enc Try.prog W' 0 (fun b => decide (b < W.heap.size)) true [22, 23] [v0, v1] [d0, d1] (p0 ++ (p1 ++ [])) :=
    trodAll_cons_mk g0 (trodAll_cons_mk g1 trodAll_mk0)
  exact ⟨_, rfl, _, _, _, [], p0 ++ (p1 ++ []), [], hW', hres, hargs, rfl, hb.frame _, fun h => by cases h⟩

theorem diskLoads_holds : Rows.DiskLoadsSaid :=
  OpenClaim.holds_of_wide 3 Try.f3 rfl rfl rfl rfl rfl rfl rfl ⟨rfl, rfl, rfl, rfl, rfl⟩ rfl rfl rfl rfl rfl (by kernel_rfl) Try.func3 (by kernel_rfl)
    (of_decide_eq_true (by kernel_rfl)) (by unfold Func.isWrapper; first | (rw [if_pos (by decide +kernel)]; kernel_rfl) | (rw [if_neg (by decide +kernel)]; exact ⟨rfl, rfl⟩))
    (fun os started H enc _ => diskLoads_lifted os started H enc)
end Go.Proofs.Ytghnbbpoaeheaaa
