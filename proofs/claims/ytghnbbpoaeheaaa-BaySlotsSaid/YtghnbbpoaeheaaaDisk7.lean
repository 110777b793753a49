/- The disk's functions, walked: New. -/
import Derived.Test.YtghnbbpoaeheaaaDisk6
namespace Go.Proofs.Ytghnbbpoaeheaaa
open Go.RowKit

theorem i102 : (Try.prog.info? 102).map (fun i => (i.zero.map (·.cells), i.size, i.bytes)) = some (some (Zof 102), 128, 128) := by kernel_rfl
theorem wpList_make96 {ops : Array Oper} {rest : List Oper} {o : Oper} {a : Act} {Q : Exit → Act → World → Prop} {w : World} (hg : o.guard = none) (l c : Operand) (hop : o.op = Op.makeSlice 96 l c)
    (C : Int) (n : Nat) (hl : a.eval l = .int .i64 C) (hc : a.eval c = .int .i64 C) (hC : C = (n : Int)) (b2 : n ≤ 8192)
    (hK : ∀ w', w'.ownsRow w.heap.size 102 128 (.slice (some ⟨w.heap.size, 0, none⟩) n n) n (List.replicate (n * 128) (.int .u8 0)) → w.grownBy w' none → wpList Try.prog ops Q rest (a.put o.dst (.slice (some ⟨w.heap.size, 0, none⟩) n n)) w') : wpList Try.prog ops Q (o :: rest) a w := by
  obtain ⟨i, hi, he⟩ := info_of i102
  simp only [Prod.mk.injEq] at he
  obtain ⟨he1, he2, he3⟩ := he
  obtain ⟨z, hz, hzc⟩ : ∃ z, i.zero = some z ∧ z.cells = Zof 102 := by
    cases hz : i.zero with
    | none => rw [hz] at he1; cases he1
    | some z => rw [hz] at he1; exact ⟨z, rfl, by simpa using he1⟩
  refine wpList_make_full w hg l c 96 hop w.heap.size 102 i z 128 Try.underlying96 hi hz he2 .i64 .i64 C C n hl hc hC hC (by rw [he3]; omega) (by unfold maxLen; omega) (Nat.le_refl _) ?_
  intro w' h1 h2
  refine hK w' ?_ h2
  have e : (madeCells z.cells (n * 128)).toList = List.replicate (n * 128) (.int .u8 0) := by
    rw [hzc, zof102]
    unfold madeCells
    rw [Array.toList_map, Array.toList_range]
    apply List.ext_getElem
    · simp
    · intro j h1 h2
      have hj : j % 128 < 128 := Nat.mod_lt _ (by decide)
      simp [hj]
  rwa [e] at h1

theorem new_bad (n : Int) (w : World) (h : n < 1 ∨ 8192 < n) : Calls Try.prog 35 #[.int .i64 n] w (Gives fun v w' => v = .tuple #[.pointer none, .int .u16 40] ∧ w = w') := by
  rcases h with h | h
  · go_enter Try.func35, Try.ntmps35
    go_wp2
    go_ret2
    exact ⟨_, rfl, rfl, rfl⟩
  · have h' : ¬ n < 1 := by omega
    go_enter Try.func35, Try.ntmps35
    go_wp2
    go_ret2
    exact ⟨_, rfl, rfl, rfl⟩

/-- A new disk: its head's block, its own blocks, all of them new. -/
def NewDisk (w : World) (D : Dk) (v : Value) (w' : World) : Prop :=
  ∃ b F, v = .tuple #[.pointer (some ⟨b, 0, none⟩), .int .u16 0] ∧ DiskAt w' b D F ∧ Keep NoF w w' ∧ ∀ x, F x → w.heap.size ≤ x

theorem run_build100 (x y : Value) (hx : x.oneCell' = true) (hy : y.oneCell' = true) (w : World) : (Instr.build 100 #[(0, x), (2, y)]).run Try.prog w = .ok (.agg #[x, .slice none 0 0, y, .bool false]) w := by
  cases x <;> simp [Value.oneCell'] at hx <;> cases y <;> simp [Value.oneCell'] at hy <;> kernel_rfl

set_option maxRecDepth 100000 in
set_option maxHeartbeats 1000000 in
theorem new_ok (n : Nat) (w : World) (h1 : 1 ≤ n) (h2 : n ≤ 8192) : Calls Try.prog 35 #[.int .i64 n] w (Gives (NewDisk w (Dk.new n))) := by
  have hmm := @run_makeMap Try.prog
  have hn1 : (1 : Int) ≤ n := by omega
  have hn2 : (n : Int) ≤ 8192 := by omega
  go_enter Try.func35, Try.ntmps35
  go_wp2_with (at_make; go_must (refine wpList_make96 rfl _ _ rfl _ n rfl rfl rfl h2 ?_); intro w1 ho hg; have HO := Lib.hid ho; have HG := Lib.hid hg; clear ho hg)
  go_ret2
  have ho := HO.out
  have hk1 : Keep NoF w w1 := Keep.grown HG.out (fun _ h => by cases h)
  have hsz := hk1.size
  rcases ho.2 with ⟨h, _⟩ | ⟨g, cap, cur, hv, hg, hh, hc, hm, hs, ht⟩
  · cases h
  obtain ⟨rfl, rfl⟩ : g = w.heap.size ∧ cap = n := by simp at hv; exact ⟨hv.1.symm, hv.2.symm⟩
  have hg1 : w.heap.size < w1.heap.size := lt_of_heap hh
  have hcur : cur = (lasCells (List.replicate cap (List.replicate 128 0))).toArray := by
    have e : lasCells (List.replicate cap (List.replicate 128 0)) = List.replicate (cap * 128) (.int .u8 0) := by
      unfold lasCells u8s
      rw [List.flatten_replicate_replicate, List.map_replicate]
    rw [e, ← ht, ← hs, List.take_of_length_le (by simp)]
  refine ⟨_, rfl, w1.heap.size + 1, fun x => x = w1.heap.size + 1 ∨ x = w.heap.size ∨ x = w1.heap.size, rfl, ⟨w.heap.size, w1.heap.size, .slice none 0 0, #[], 0, ?_, ?_, ?_, SeenOk.nil, World.ownsRow_nil _ _ _ _, ?_, Dk.ok_new h1 h2⟩, hk1.trans' ((Keep.alloc _ _ _).trans' (Keep.alloc _ _ _)), ?_⟩
  · have := heap_alloc_new (w1.alloc (.map #[] 0)) (.cells #[.slice (some ⟨w.heap.size, 0, none⟩) cap cap, .slice none 0 0, .map (some w1.heap.size), .bool false] 100)
    rw [show (w1.alloc (.map #[] 0)).heap.size = w1.heap.size + 1 by simp] at this
    simpa [Dk.new] using this
  · rw [Below.heap_alloc _ _ _ (by simp; omega), Below.heap_alloc _ _ _ hg1, hh, hcur]
    rfl
  · rw [Below.heap_alloc _ _ _ (by simp)]
    exact heap_alloc_new w1 _
  · intro x; simp [Value.ownBlock]
  · rintro x (rfl | rfl | rfl) <;> omega

theorem new_any (n : Int) (w : World) : Calls Try.prog 35 #[.int .i64 n] w (Gives fun v w' => if 1 ≤ n ∧ n ≤ 8192 then NewDisk w (Dk.new n.toNat) v w' else v = .tuple #[.pointer none, .int .u16 40] ∧ w = w') := by
  by_cases h : 1 ≤ n ∧ n ≤ 8192
  · obtain ⟨k, rfl⟩ := Int.eq_ofNat_of_zero_le (show 0 ≤ n by omega)
    simp only [if_pos h]
    exact new_ok k w (by omega) (by omega)
  · simp only [if_neg h]
    exact new_bad n w (by omega)
end Go.Proofs.Ytghnbbpoaeheaaa
