/- BayCuts: the statement, out of the walk. -/
import Derived.Test.YtghnbbpoaeheaaaCuts
import Derived.Test.YtghnbbpoaeheaaaOpen
import Derived.OpenShut
namespace Go.Proofs.Ytghnbbpoaeheaaa
open Go.RowKit Go.ChangeShapes Go.WideShapes Go.ChangeAt

theorem ownTry : ownKnob Try.prog.godebug = none := by kernel_rfl
theorem laidTry : laidOutB Try.prog = true := by kernel_rfl
theorem below_old {W w : World} (h : Keep (Old W) W w) : Below W.heap.size W w := h.below W.heap.size (Nat.le_refl _) (fun _ hx => hx)

set_option maxRecDepth 100000 in
set_option maxHeartbeats 800000 in
theorem bayCuts_lifted (os : Os) (started : os.Started) (H : Type) (enc : TypeId × Value → H) :
    ReturnsInHanded {} Try.checked os 7 .any (Rows.bayCutsSpec.pre6 enc Try.prog Try.f7 Rows.bayCutsRow.domain false) (Rows.bayCutsSpec.post enc Try.prog Try.f7 false true false false) := by
  refine returnsInHanded_of_change_sized (C := Try.checked) ownTry started (by kernel_rfl) Try.func7
    (ChangeSpec.witness6 (enc := enc) (C := Try.checked) false ⟨#[], #[.int .i64 0, .slice none 0 0, .int .i64 0, .slice none 0 0, .slice none 0 0], []⟩ 8 (by kernel_rfl) (by kernel_rfl) (by kernel_rfl) (by kernel_rfl)) ?_
  intro W base args ds gs before hval0 hW _ hsz0 _
  have hval : ∀ (j : Nat) t v, Try.f7.params[j]? = some t → args[j]? = some v → Value.okWide Try.prog W .any base t v := hval0
  have hsz : (DataW.weightsEach Try.prog (Try.f7.params.toList ++ Rows.bayCutsSpec.plain.varTypes Try.prog) (ds ++ gs)).all (· ≤ reachBytes) = true := hsz0
  have hW' := hW
  obtain ⟨p, q, hA0, hV, rfl, _, _⟩ := hW
  have hA : DataW.TrodAll enc Try.prog W 0 (fun _ => true) true Try.f7.params.toList args.toList ds p := hA0
  rw [Try.params7] at hA hval hsz
  obtain ⟨v0, vs0, d0, ds0, p0, q0, hargs, rfl, rfl, h0, r0⟩ := trodAll_cons hA
  obtain ⟨v1, vs1, d1, ds1, p1, q1, rfl, rfl, rfl, h1, r1⟩ := trodAll_cons r0
  obtain ⟨v2, vs2, d2, ds2, p2, q2, rfl, rfl, rfl, h2, r2⟩ := trodAll_cons r1
  obtain ⟨v3, vs3, d3, ds3, p3, q3, rfl, rfl, rfl, h3, r3⟩ := trodAll_cons r2
  obtain ⟨v4, vs4, d4, ds4, p4, q4, rfl, rfl, rfl, h4, r4⟩ := trodAll_cons r3
  obtain ⟨rfl, rfl, rfl⟩ := trodAll_nil r4
  obtain rfl : args = #[v0, v1, v2, v3, v4] := by cases args; simp_all
  obtain ⟨rfl, rfl⟩ := trodVars_none hV
  obtain ⟨a0, rfl, rfl, rfl, w0⟩ := open_int Try.underlying3 (hval 0 3 v0 rfl rfl) h0
  obtain ⟨a2, rfl, rfl, rfl, w2⟩ := open_int Try.underlying3 (hval 2 3 v2 rfl rfl) h2
  have hfit : ∀ (j : Nat) (t : TypeId) (d : DataW H), ([3, 61, 3, 57, 57] : List TypeId)[j]? = some t → [.lit (.int .i64 a0), d1, .lit (.int .i64 a2), d3, d4][j]? = some d → Fits t d := fun j t d ht hd n hn => by
    have := List.all_eq_true.1 hsz n (DataW.weights_mem_each (j := j) (t := t) (d := d) ht hd n hn)
    simpa using this
  obtain ⟨fuel1, hf1⟩ := trod_one Try.underlying61 (hval 1 61 v1 rfl rfl) h1
  obtain ⟨ops, ho⟩ := open_ops hf1 (hfit 1 _ _ rfl rfl)
  obtain ⟨fuel3, hf3⟩ := trod_one Try.underlying57 (hval 3 57 v3 rfl rfl) h3
  obtain ⟨l, hk, hl⟩ := open_bools hf3 (hfit 3 _ _ rfl rfl)
  obtain ⟨ka, kc, hkv, -, -⟩ := id hk
  obtain ⟨fuel4, hf4⟩ := trod_one Try.underlying57 (hval 4 57 v4 rfl rfl) h4
  obtain ⟨l4, hk4, hl4⟩ := open_bools hf4 (hfit 4 _ _ rfl rfl)
  obtain ⟨ka4, kc4, hkv4, -, -⟩ := id hk4
  clear hA0 hval0
  have hlt : ∀ x, (x ∈ p1 ∨ x ∈ p3 ∨ x ∈ p4) → x.block < W.heap.size := fun x hx => by
    refine hW'.lt x ?_
    simp only [List.append_nil, List.nil_append, List.mem_append]
    simpa using hx
  subst hkv hkv4
  refine (cuts_any a0 a2 (lit_i64 w0) (lit_i64 w2) ho hk hl hk4 hl4).mono fun e W' hg => ?_
  obtain ⟨v, rfl, rfl, hkk⟩ := hg
  have hb := below_old hkk
  have g1 : DataW.Trod enc Try.prog W' 0 (fun b => decide (b < W.heap.size)) true 61 v1 d1 p1 := Below.trod laidTry (by kernel_rfl) (of_decide_eq_true (by kernel_rfl)) h1 hb (fun x hx => hlt x (.inl hx))
  have g3 : DataW.Trod enc Try.prog W' 0 (fun b => decide (b < W.heap.size)) true 57 (.slice ka l.length kc) d3 p3 := Below.trod laidTry (by kernel_rfl) (of_decide_eq_true (by kernel_rfl)) h3 hb (fun x hx => hlt x (.inr (.inl hx)))
  have g4 : DataW.Trod enc Try.prog W' 0 (fun b => decide (b < W.heap.size)) true 57 (.slice ka4 l4.length kc4) d4 p4 := Below.trod laidTry (by kernel_rfl) (of_decide_eq_true (by kernel_rfl)) h4 hb (fun x hx => hlt x (.inr (.inr hx)))
  have hres : DataW.TrodAll enc Try.prog W' W.heap.size (fun _ => false) false [4] [.bool true] [.lit (.bool true)] [] := trodAll_mk1 (shut_bool Try.underlying4 true)
  have hargs : DataW.TrodAll enc Try.prog W' 0 (fun b => decide (b < W.heap.size)) true [3, 61, 3, 57, 57] [.int .i64 a0, v1, .int .i64 a2, .slice ka l.length kc, .slice ka4 l4.length kc4] [.lit (.int .i64 a0), d1, .lit (.int .i64 a2), d3, d4] ([] ++ (p1 ++ ([] ++ (p3 ++ (p4 ++ []))))) :=
    trodAll_cons_mk (shut_int Try.underlying3 w0) (trodAll_cons_mk g1 (trodAll_cons_mk (shut_int Try.underlying3 w2) (trodAll_cons_mk g3 (trodAll_cons_mk g4 trodAll_mk0))))
  exact ⟨_, rfl, _, _, _, [], [] ++ (p1 ++ ([] ++ (p3 ++ (p4 ++ [])))), [], hW', hres, hargs, rfl, hb.frame _, fun h => by cases h⟩

theorem bayCuts_holds : Rows.BayCutsSaid :=
  OpenClaim.holds_of_wide 7 Try.f7 rfl rfl rfl rfl rfl rfl rfl ⟨rfl, rfl, rfl, rfl, rfl⟩ rfl rfl rfl rfl rfl (by kernel_rfl) Try.func7 (by kernel_rfl)
    (of_decide_eq_true (by kernel_rfl)) (by unfold Func.isWrapper; first | (rw [if_pos (by decide +kernel)]; kernel_rfl) | (rw [if_neg (by decide +kernel)]; exact ⟨rfl, rfl⟩))
    (fun os started H enc _ => bayCuts_lifted os started H enc)
end Go.Proofs.Ytghnbbpoaeheaaa
