/- The disk's functions, walked: Write. -/
import Derived.Test.YtghnbbpoaeheaaaBuild
import Derived.Deep.RegionLaw
import Derived.Deep.AppendLies
namespace Go.Proofs.Ytghnbbpoaeheaaa
open Go.RowKit

theorem exec_build142 {ρ : Operand → Value} {o : Oper} {x y : Operand} (ho : o.op = .build 142 #[(0, x), (1, y)]) (k : Int) (c : Array Value) (hx : ρ x = .int .i64 k) (hy : ρ y = .agg c) (hc : c.size = 128) (w : World) :
    (execOp ρ o).run Try.prog w = .ok (.value (.agg (.int .i64 k :: c.toList).toArray)) w := by
  have := run_build142 k c hc w
  simp only [execOp, ho]
  have e : (#[(0, x), (1, y)] : Array (Nat × Operand)).map (fun p => (p.1, ρ p.2)) = #[(0, .int .i64 k), (1, .agg c)] := by simp [hx, hy]
  show Sem.run _ (do pure (Next.value (← Instr.build 142 ((#[(0, x), (1, y)] : Array (Nat × Operand)).map (fun p => (p.1, ρ p.2)))))) w = _
  rw [e, Sem.run_bind, this]
  rfl
theorem wp_buildSlice97 {o : Oper} {a : Act} {w : World} {K : Act → World → Prop} {Q : Exit → Act → World → Prop} {x : Operand} (ho : o.op = .buildSlice 97 1 #[(0, x)]) (c : Array Value) (hx : a.eval x = .agg c) (hc : c.size = 129)
    (h : K (a.put o.dst (.slice (some ⟨w.heap.size, 0, none⟩) 1 1)) (w.alloc (.cells c 142))) : o.wp Try.prog a w K Q := by
  have := run_buildSlice97 c hc w
  unfold Oper.wp
  have e : (#[(0, x)] : Array (Nat × Operand)).map (fun p => (p.1, a.eval p.2)) = #[(0, .agg c)] := by simp [hx]
  have hr : (execOp a.eval o).run Try.prog w = .ok (.value (.slice (some ⟨w.heap.size, 0, none⟩) 1 1)) (w.alloc (.cells c 142)) := by
    simp only [execOp, ho]
    show Sem.run _ (do pure (Next.value (← Instr.buildSlice 97 1 ((#[(0, x)] : Array (Nat × Operand)).map (fun p => (p.1, a.eval p.2)))))) w = _
    rw [e, Sem.run_bind, this]
    rfl
  rw [hr]
  exact h

theorem step_of_wp {P : Program} {ops : Array Oper} {o : Oper} {a : Act} {w : World} {K : Act → World → Prop} {Q : Exit → Act → World → Prop} {E : Prop} (hgd : o.guard = none) (h : Oper.wp P o a w K Q) :
    if Region.wanted o (yielded ops a.tmps) = true then Oper.wp P o a w K Q else E := by
  rw [if_pos (by simp [Region.wanted, hgd])]; exact h

/-- What is known of the world behind the append and the store. -/
def WriteEnd (W2 : World) (b k cn cc : Nat) (ca : Option Addr) (olds : List Value) (xs : List Int) (w' : World) : Prop :=
  ∃ g cap w1, w1.ownsRow 0 142 129 (.slice (some ⟨g, 0, none⟩) (cn + 1) cap) (cn + 1) (olds ++ (.int .i64 k :: u8s xs)) ∧ (W2.drew.alloc (.cells (.int .i64 k :: u8s xs).toArray 142)).grownBy w1 (Value.slice ca cn cc).ownBlock ∧
    ((Value.slice ca cn cc).ownBlock = some g ∨ g = W2.heap.size + 1) ∧ g < w1.heap.size ∧ w' = w1.setCell ⟨b, 1, none⟩ (.slice (some ⟨g, 0, none⟩) (cn + 1) cap)

set_option maxRecDepth 100000 in
set_option maxHeartbeats 800000 in
theorem write_core (w W2 : World) (b k n bL bS dcap db do_ : Nat) (xs : List Int) (cn cc : Nat) (ca : Option Addr) (olds : List Value) (hm : Hid (Calls Try.prog 82 #[.pointer (some ⟨b, 0, none⟩), .int .i64 k] w fun e w' => e = .returned (.int .u16 0) ∧ w = w'))
    (h0 : w.cell? ⟨b, 0, none⟩ = some (.slice (some ⟨bL, 0, none⟩) n n)) (h1 : w.cell? ⟨b, 1, none⟩ = some (.slice ca cn cc)) (h2 : w.cell? ⟨b, 2, none⟩ = some (.map (some bS)))
    (hk : k < n) (hxl : xs.length = 128)
    (hrun : (Instr.mapUpdate 98 (.map (some bS)) (.int .i64 k) (.int .i64 cn)).run Try.prog w.drew = .ok () W2)
    (g1 : W2.cell? ⟨b, 1, none⟩ = some (.slice ca cn cc)) (gf1 : W2.frozen? ⟨b, 1, none⟩ = false) (gx : W2.rangeAt db do_ (u8s xs)) (hbz : b < W2.heap.size)
    (hown : W2.ownsRow 0 142 129 (.slice ca cn cc) cn olds) (hcn : cn ≤ 1000000) (hne : (Value.slice ca cn cc).ownBlock ≠ some b) :
    Calls Try.prog 37 #[.pointer (some ⟨b, 0, none⟩), .int .i64 k, .slice (some ⟨db, do_, none⟩) 128 dcap] w (Gives fun v w' => v = .int .u16 0 ∧ WriteEnd W2 b k cn cc ca olds xs w') := by
  have HI := Lib.hid (show (Try.prog.info? 102).map (·.size) = some (u8s xs).length by rw [size102, length_u8s, hxl])
  have HX128 := Lib.hid (show (u8s xs).toArray.size = 128 by simp [hxl])
  have hl129 : (.int .i64 k :: u8s xs).toArray.size = 129 := by simp [hxl]
  obtain ⟨i0, hi0, he⟩ := info_of i142
  simp only [Prod.mk.injEq] at he
  obtain ⟨hza, hz1, hz2⟩ := he
  obtain ⟨z0, hz0, hzc⟩ : ∃ z, i0.zero = some z ∧ z.cells = Zof 142 := by
    cases hz : i0.zero with
    | none => rw [hz] at hza; cases hza
    | some z => rw [hz] at hza; exact ⟨z, rfl, by simpa using hza⟩
  have hz3 := Lib.hid (show z0.cells.size = 129 by rw [hzc]; exact zofs142)
  have hi0 := Lib.hid hi0
  have hz0 := Lib.hid hz0
  have hz1 := Lib.hid hz1
  have hz2 := Lib.hid hz2
  have GX : Hid (W2.drew.rangeAt db do_ (u8s xs)) := gx
  have HOWN : Hid ((W2.drew.alloc (.cells (.int .i64 k :: u8s xs).toArray 142)).ownsRow 0 142 129 (.slice ca cn cc) cn olds) := World.ownsRow.alloc (w := W2.drew) hown _
  have HL : Hid ((Value.int .i64 k :: u8s xs).toArray.toList.length = 1 * 129) := by show _ = _; simp [hxl]
  have HN : Hid (∀ j u, ((Value.int .i64 k :: u8s xs).toArray.toList)[j]? = some u → (W2.drew.alloc (.cells (.int .i64 k :: u8s xs).toArray 142)).cell? ((⟨W2.heap.size, 0, none⟩ : Addr).add j) = some u) := World.news_of_block (heap_alloc_new W2.drew _)
  have H1 : Hid (∀ u ∈ ((Value.int .i64 k :: u8s xs).toArray.toList), u.oneCell' = true) := by
    intro u hu
    rcases List.mem_cons.1 (by simpa using hu) with rfl | hu
    · rfl
    · exact u8s_one xs u hu
  have HB : Hid (cn + 1 ≤ maxLen) := by show _ ≤ _; unfold maxLen; omega
  have HB2 : Hid ((cn + 1) * 136 ≤ 140737488355328) := by show _ ≤ _; omega
  have HC1 : Hid ((W2.drew.alloc (.cells (.int .i64 k :: u8s xs).toArray 142)).cell? ⟨b, 1, none⟩ = some (.slice ca cn cc)) := (World.cell?_of_block (w := W2.drew) (Below.heap_alloc W2.drew _ b hbz)).trans g1
  have HF1 : Hid ((W2.drew.alloc (.cells (.int .i64 k :: u8s xs).toArray 142)).frozen? ⟨b, 1, none⟩ = false) := (World.frozen?_of_block (w := W2.drew) (Below.heap_alloc W2.drew _ b hbz)).trans gf1
  have HBZ : Hid (b < (W2.drew.alloc (.cells (.int .i64 k :: u8s xs).toArray 142)).heap.size) := by show b < _; simp; omega
  have HNE : Hid (some b ≠ (Value.slice ca cn cc).ownBlock) := fun e => hne e.symm
  have harr := fun w => run_arrayAt102 (some ⟨db, do_, none⟩) 128 dcap (by decide) w
  have H129 := Lib.hid hl129
  clear gx hown gf1 hcn hne hza hzc hl129 hxl
  go_enter Try.func37, Try.ntmps37
  go_wp2_with (first | (go_at_call 82; refine hm.out.mono ?_; rintro e w' ⟨rfl, rfl⟩))
  go_region
  clear hrun h0 h1 h2 hm
  go_wp2
  refine wp_region_any (by kernel_rfl) ?_
  change wpAny _ _ _ _ _ _ _ (World.drew _)
  refine wpAny_take (i := 0) (v := .pointer (some ⟨b, 0, none⟩)) rfl (by kernel_rfl) (by kernel_rfl) (by kernel_rfl) (fun _ _ _ h => h) (Or.inl ⟨by rfl, fun w => by go_simp⟩) ?_
  try simp only [Act.put, List.getElem_toArray, List.getElem_cons_zero, List.getElem_cons_succ, List.setIfInBounds_toArray, List.set_cons_zero, List.set_cons_succ]
  refine wpAny_take (i := 1) (v := .pointer (some ⟨b, 0, none⟩)) rfl (by kernel_rfl) (by kernel_rfl) (by kernel_rfl) (fun _ _ _ h => h) (Or.inl ⟨by rfl, fun w => by go_simp⟩) ?_
  try simp only [Act.put, List.getElem_toArray, List.getElem_cons_zero, List.getElem_cons_succ, List.setIfInBounds_toArray, List.set_cons_zero, List.set_cons_succ]
  refine wpAny_take (i := 2) (v := .pointer (some ⟨b, 0, none⟩)) rfl (by kernel_rfl) (by kernel_rfl) (by kernel_rfl) (fun _ _ _ h => h) (Or.inl ⟨by rfl, fun w => by go_simp⟩) ?_
  try simp only [Act.put, List.getElem_toArray, List.getElem_cons_zero, List.getElem_cons_succ, List.setIfInBounds_toArray, List.set_cons_zero, List.set_cons_succ]
  refine wpAny_take (i := 3) (v := .pointer (some ⟨b, 1, none⟩)) rfl (by kernel_rfl) (by kernel_rfl) (by kernel_rfl) (fun _ _ _ h => h) (Or.inl ⟨by rfl, fun w => by go_simp⟩) ?_
  try simp only [Act.put, List.getElem_toArray, List.getElem_cons_zero, List.getElem_cons_succ, List.setIfInBounds_toArray, List.set_cons_zero, List.set_cons_succ]
  refine wpAny_take (i := 5) (v := .int .i64 k) rfl (by kernel_rfl) (by kernel_rfl) (by kernel_rfl) (fun _ _ _ h => h) (Or.inl ⟨by rfl, fun w => by go_simp⟩) ?_
  try simp only [Act.put, List.getElem_toArray, List.getElem_cons_zero, List.getElem_cons_succ, List.setIfInBounds_toArray, List.set_cons_zero, List.set_cons_succ]
  refine wpAny_take (i := 6) (v := .slice (some ⟨db, do_, none⟩) 128 dcap) rfl (by kernel_rfl) (by kernel_rfl) (by kernel_rfl) (fun _ _ _ h => h) (Or.inl ⟨by rfl, fun w => by go_simp⟩) ?_
  try simp only [Act.put, List.getElem_toArray, List.getElem_cons_zero, List.getElem_cons_succ, List.setIfInBounds_toArray, List.set_cons_zero, List.set_cons_succ]
  refine wpAny_take (i := 7) (v := .pointer (some ⟨db, do_, none⟩)) rfl (by kernel_rfl) (by kernel_rfl) (by kernel_rfl) (fun _ _ _ h => h) (Or.inl ⟨by rfl, fun w => by go_simp⟩) ?_
  try simp only [Act.put, List.getElem_toArray, List.getElem_cons_zero, List.getElem_cons_succ, List.setIfInBounds_toArray, List.set_cons_zero, List.set_cons_succ]
  refine wpAny_ready (rs := [4, 8]) (by kernel_rfl) (by simp) ?_
  refine AllReady.cons rfl (fun K hK => ?_) ?_
  · skip
    go_simp
    refine hK _ _ ?_
    clear hK K
    try simp only [Act.put, List.getElem_toArray, List.getElem_cons_zero, List.getElem_cons_succ, List.setIfInBounds_toArray, List.set_cons_zero, List.set_cons_succ]
    refine wpAny_ready (rs := [8]) (by kernel_rfl) (by simp) ?_
    refine AllReady.cons rfl (fun K hK => ?_) AllReady.nil
    refine step_of_wp (by rfl) ?_
    refine wp_load_mid 102 _ rfl db do_ rfl (u8s xs) _ GX.out Try.underlying102 rfl HI.out ?_
    refine hK _ _ ?_
    clear hK K
    try simp only [Act.put, List.getElem_toArray, List.getElem_cons_zero, List.getElem_cons_succ, List.setIfInBounds_toArray, List.set_cons_zero, List.set_cons_succ]
    refine wpAny_take (i := 9) (v := .agg (.int .i64 k :: u8s xs).toArray) rfl (by kernel_rfl) (by kernel_rfl) (by kernel_rfl) (fun _ _ _ h => h) (Or.inl ⟨by rfl, fun w => exec_build142 rfl k (u8s xs).toArray rfl rfl HX128.out w⟩) ?_
    try simp only [Act.put, List.getElem_toArray, List.getElem_cons_zero, List.getElem_cons_succ, List.setIfInBounds_toArray, List.set_cons_zero, List.set_cons_succ]
    refine wpAny_ready (rs := [10]) (by kernel_rfl) (by simp) ?_
    refine AllReady.cons rfl (fun K hK => ?_) AllReady.nil
    refine step_of_wp (by rfl) ?_
    refine wp_buildSlice97 rfl (.int .i64 k :: u8s xs).toArray rfl H129.out ?_
    refine hK _ _ ?_
    clear hK K
    try simp only [Act.put, List.getElem_toArray, List.getElem_cons_zero, List.getElem_cons_succ, List.setIfInBounds_toArray, List.set_cons_zero, List.set_cons_succ]
    refine wpAny_ready (rs := [11]) (by kernel_rfl) (by simp) ?_
    refine AllReady.cons rfl (fun K hK => ?_) AllReady.nil
    refine step_append_lies _ (by rfl) _ _ _ (by rfl) 0 142 i0 z0 129 136 Try.underlying97 hi0.out hz0.out hz1.out hz2.out hz3.out (by decide) (.slice ca cn cc) cn olds (by rfl) HOWN.out ⟨W2.heap.size, 0, none⟩ 1 1 (.int .i64 k :: u8s xs).toArray.toList (by rfl) HL.out HN.out H1.out (by decide) HB.out HB2.out (by simp) (W2.heap.size + 1) (by simp) ?_
    intro g cap w1 hown1 hgrow hat hlt
    refine hK _ _ ?_
    clear hK K
    try simp only [Act.put, List.getElem_toArray, List.getElem_cons_zero, List.getElem_cons_succ, List.setIfInBounds_toArray, List.set_cons_zero, List.set_cons_succ]
    have k1 : w1.cell? ⟨b, 1, none⟩ = some (.slice ca cn cc) := (World.cell?_of_block (hgrow.block b HBZ.out HNE.out)).trans HC1.out
    have kf : w1.frozen? ⟨b, 1, none⟩ = false := (World.frozen?_of_block (hgrow.block b HBZ.out HNE.out)).trans HF1.out
    refine wpAny_take (i := 12) (v := .pointer (some ⟨b, 0, none⟩)) rfl (by kernel_rfl) (by kernel_rfl) (by kernel_rfl) (fun _ _ _ h => h) (Or.inl ⟨by rfl, fun w => by go_simp⟩) ?_
    try simp only [Act.put, List.getElem_toArray, List.getElem_cons_zero, List.getElem_cons_succ, List.setIfInBounds_toArray, List.set_cons_zero, List.set_cons_succ]
    refine wpAny_take (i := 13) (v := .pointer (some ⟨b, 1, none⟩)) rfl (by kernel_rfl) (by kernel_rfl) (by kernel_rfl) (fun _ _ _ h => h) (Or.inl ⟨by rfl, fun w => by go_simp⟩) ?_
    try simp only [Act.put, List.getElem_toArray, List.getElem_cons_zero, List.getElem_cons_succ, List.setIfInBounds_toArray, List.set_cons_zero, List.set_cons_succ]
    refine wpAny_ready (rs := [14]) (by kernel_rfl) (by simp) ?_
    refine AllReady.cons rfl (fun K hK => ?_) AllReady.nil
    go_simp
    refine hK _ _ ?_
    clear hK K
    try simp only [Act.put, List.getElem_toArray, List.getElem_cons_zero, List.getElem_cons_succ, List.setIfInBounds_toArray, List.set_cons_zero, List.set_cons_succ]
    refine wpAny_done (by kernel_rfl) ?_ _
    go_wp2
    go_ret
    exact ⟨_, rfl, rfl, g, cap, w1, hown1, hgrow, hat, hlt, rfl⟩
  refine AllReady.cons (o := { dst := some 35, op := .load 102 (.tmp 34), type := 102, pos := "disk.go:84", after := #[{ on := 7, ground := .data }], guard := none }) rfl (fun K hK => ?_) AllReady.nil
  · skip
    refine step_of_wp (by rfl) ?_
    refine wp_load_mid 102 _ rfl db do_ rfl (u8s xs) _ GX.out Try.underlying102 rfl HI.out ?_
    refine hK _ _ ?_
    clear hK K
    try simp only [Act.put, List.getElem_toArray, List.getElem_cons_zero, List.getElem_cons_succ, List.setIfInBounds_toArray, List.set_cons_zero, List.set_cons_succ]
    refine wpAny_take (i := 9) (v := .agg (.int .i64 k :: u8s xs).toArray) rfl (by kernel_rfl) (by kernel_rfl) (by kernel_rfl) (fun _ _ _ h => h) (Or.inl ⟨by rfl, fun w => exec_build142 rfl k (u8s xs).toArray rfl rfl HX128.out w⟩) ?_
    try simp only [Act.put, List.getElem_toArray, List.getElem_cons_zero, List.getElem_cons_succ, List.setIfInBounds_toArray, List.set_cons_zero, List.set_cons_succ]
    refine wpAny_ready (rs := [4, 10]) (by kernel_rfl) (by simp) ?_
    refine AllReady.cons rfl (fun K hK => ?_) ?_
    · skip
      go_simp
      refine hK _ _ ?_
      clear hK K
      try simp only [Act.put, List.getElem_toArray, List.getElem_cons_zero, List.getElem_cons_succ, List.setIfInBounds_toArray, List.set_cons_zero, List.set_cons_succ]
      refine wpAny_ready (rs := [10]) (by kernel_rfl) (by simp) ?_
      refine AllReady.cons rfl (fun K hK => ?_) AllReady.nil
      refine step_of_wp (by rfl) ?_
      refine wp_buildSlice97 rfl (.int .i64 k :: u8s xs).toArray rfl H129.out ?_
      refine hK _ _ ?_
      clear hK K
      try simp only [Act.put, List.getElem_toArray, List.getElem_cons_zero, List.getElem_cons_succ, List.setIfInBounds_toArray, List.set_cons_zero, List.set_cons_succ]
      refine wpAny_ready (rs := [11]) (by kernel_rfl) (by simp) ?_
      refine AllReady.cons rfl (fun K hK => ?_) AllReady.nil
      refine step_append_lies _ (by rfl) _ _ _ (by rfl) 0 142 i0 z0 129 136 Try.underlying97 hi0.out hz0.out hz1.out hz2.out hz3.out (by decide) (.slice ca cn cc) cn olds (by rfl) HOWN.out ⟨W2.heap.size, 0, none⟩ 1 1 (.int .i64 k :: u8s xs).toArray.toList (by rfl) HL.out HN.out H1.out (by decide) HB.out HB2.out (by simp) (W2.heap.size + 1) (by simp) ?_
      intro g cap w1 hown1 hgrow hat hlt
      refine hK _ _ ?_
      clear hK K
      try simp only [Act.put, List.getElem_toArray, List.getElem_cons_zero, List.getElem_cons_succ, List.setIfInBounds_toArray, List.set_cons_zero, List.set_cons_succ]
      have k1 : w1.cell? ⟨b, 1, none⟩ = some (.slice ca cn cc) := (World.cell?_of_block (hgrow.block b HBZ.out HNE.out)).trans HC1.out
      have kf : w1.frozen? ⟨b, 1, none⟩ = false := (World.frozen?_of_block (hgrow.block b HBZ.out HNE.out)).trans HF1.out
      refine wpAny_take (i := 12) (v := .pointer (some ⟨b, 0, none⟩)) rfl (by kernel_rfl) (by kernel_rfl) (by kernel_rfl) (fun _ _ _ h => h) (Or.inl ⟨by rfl, fun w => by go_simp⟩) ?_
      try simp only [Act.put, List.getElem_toArray, List.getElem_cons_zero, List.getElem_cons_succ, List.setIfInBounds_toArray, List.set_cons_zero, List.set_cons_succ]
      refine wpAny_take (i := 13) (v := .pointer (some ⟨b, 1, none⟩)) rfl (by kernel_rfl) (by kernel_rfl) (by kernel_rfl) (fun _ _ _ h => h) (Or.inl ⟨by rfl, fun w => by go_simp⟩) ?_
      try simp only [Act.put, List.getElem_toArray, List.getElem_cons_zero, List.getElem_cons_succ, List.setIfInBounds_toArray, List.set_cons_zero, List.set_cons_succ]
      refine wpAny_ready (rs := [14]) (by kernel_rfl) (by simp) ?_
      refine AllReady.cons rfl (fun K hK => ?_) AllReady.nil
      go_simp
      refine hK _ _ ?_
      clear hK K
      try simp only [Act.put, List.getElem_toArray, List.getElem_cons_zero, List.getElem_cons_succ, List.setIfInBounds_toArray, List.set_cons_zero, List.set_cons_succ]
      refine wpAny_done (by kernel_rfl) ?_ _
      go_wp2
      go_ret
      exact ⟨_, rfl, rfl, g, cap, w1, hown1, hgrow, hat, hlt, rfl⟩
    refine AllReady.cons (o := { dst := some 37, op := .buildSlice 97 1 #[(0, .tmp 36)], type := 97, pos := "disk.go:84", after := #[{ on := 9, ground := .data }], guard := none }) rfl (fun K hK => ?_) AllReady.nil
    · skip
      refine step_of_wp (by rfl) ?_
      refine wp_buildSlice97 rfl (.int .i64 k :: u8s xs).toArray rfl H129.out ?_
      refine hK _ _ ?_
      clear hK K
      try simp only [Act.put, List.getElem_toArray, List.getElem_cons_zero, List.getElem_cons_succ, List.setIfInBounds_toArray, List.set_cons_zero, List.set_cons_succ]
      refine wpAny_ready (rs := [4]) (by kernel_rfl) (by simp) ?_
      refine AllReady.cons rfl (fun K hK => ?_) AllReady.nil
      go_simp
      refine hK _ _ ?_
      clear hK K
      try simp only [Act.put, List.getElem_toArray, List.getElem_cons_zero, List.getElem_cons_succ, List.setIfInBounds_toArray, List.set_cons_zero, List.set_cons_succ]
      refine wpAny_ready (rs := [11]) (by kernel_rfl) (by simp) ?_
      refine AllReady.cons rfl (fun K hK => ?_) AllReady.nil
      refine step_append_lies _ (by rfl) _ _ _ (by rfl) 0 142 i0 z0 129 136 Try.underlying97 hi0.out hz0.out hz1.out hz2.out hz3.out (by decide) (.slice ca cn cc) cn olds (by rfl) HOWN.out ⟨W2.heap.size, 0, none⟩ 1 1 (.int .i64 k :: u8s xs).toArray.toList (by rfl) HL.out HN.out H1.out (by decide) HB.out HB2.out (by simp) (W2.heap.size + 1) (by simp) ?_
      intro g cap w1 hown1 hgrow hat hlt
      refine hK _ _ ?_
      clear hK K
      try simp only [Act.put, List.getElem_toArray, List.getElem_cons_zero, List.getElem_cons_succ, List.setIfInBounds_toArray, List.set_cons_zero, List.set_cons_succ]
      have k1 : w1.cell? ⟨b, 1, none⟩ = some (.slice ca cn cc) := (World.cell?_of_block (hgrow.block b HBZ.out HNE.out)).trans HC1.out
      have kf : w1.frozen? ⟨b, 1, none⟩ = false := (World.frozen?_of_block (hgrow.block b HBZ.out HNE.out)).trans HF1.out
      refine wpAny_take (i := 12) (v := .pointer (some ⟨b, 0, none⟩)) rfl (by kernel_rfl) (by kernel_rfl) (by kernel_rfl) (fun _ _ _ h => h) (Or.inl ⟨by rfl, fun w => by go_simp⟩) ?_
      try simp only [Act.put, List.getElem_toArray, List.getElem_cons_zero, List.getElem_cons_succ, List.setIfInBounds_toArray, List.set_cons_zero, List.set_cons_succ]
      refine wpAny_take (i := 13) (v := .pointer (some ⟨b, 1, none⟩)) rfl (by kernel_rfl) (by kernel_rfl) (by kernel_rfl) (fun _ _ _ h => h) (Or.inl ⟨by rfl, fun w => by go_simp⟩) ?_
      try simp only [Act.put, List.getElem_toArray, List.getElem_cons_zero, List.getElem_cons_succ, List.setIfInBounds_toArray, List.set_cons_zero, List.set_cons_succ]
      refine wpAny_ready (rs := [14]) (by kernel_rfl) (by simp) ?_
      refine AllReady.cons rfl (fun K hK => ?_) AllReady.nil
      go_simp
      refine hK _ _ ?_
      clear hK K
      try simp only [Act.put, List.getElem_toArray, List.getElem_cons_zero, List.getElem_cons_succ, List.setIfInBounds_toArray, List.set_cons_zero, List.set_cons_succ]
      refine wpAny_done (by kernel_rfl) ?_ _
      go_wp2
      go_ret
      exact ⟨_, rfl, rfl, g, cap, w1, hown1, hgrow, hat, hlt, rfl⟩

/-- What a write gives: the error; the disk with the write in its cache; nothing else has turned. -/
def DiskPost (w : World) (b : Nat) (D' : Dk) (F : Nat → Prop) (w' : World) : Prop :=
  ∃ F', DiskAt w' b D' F' ∧ Keep F w w' ∧ ∀ x, F' x → F x ∨ w.heap.size ≤ x
def CodePost (c : Int) (Q : World → Prop) (v : Value) (w' : World) : Prop := v = .int .u16 c ∧ Q w'

theorem DiskPost.same {w : World} {b : Nat} {D : Dk} {F : Nat → Prop} (h : DiskAt w b D F) : DiskPost w b D F w := ⟨F, h, Keep.refl _ _, fun _ hx => .inl hx⟩

set_option maxHeartbeats 400000 in
theorem write_bad {w : World} {b : Nat} {D : Dk} {F : Nat → Prop} (h : DiskAt w b D F) (at_ : Int) (v : Value) (hc : ¬ D.code at_ = 0) :
    Calls Try.prog 37 #[.pointer (some ⟨b, 0, none⟩), .int .i64 at_, v] w (Gives (CodePost (D.code at_) (DiskPost w b D F))) := by
  have hm := Lib.hid (may_any h at_)
  have hp := Lib.hid (DiskPost.same h)
  generalize hcc : D.code at_ = c at *
  have hcb : (c != 0) = true := by simpa using hc
  clear h hc hcc
  go_enter Try.func37, Try.ntmps37
  go_wp2_with ((go_at_call 82; refine hm.out.mono ?_; rintro e w' ⟨rfl, rfl⟩))
  go_ret
  exact ⟨_, rfl, rfl, hp.out⟩
set_option maxHeartbeats 400000 in
theorem write_len {w : World} {b : Nat} {D : Dk} {F : Nat → Prop} (h : DiskAt w b D F) (at_ : Int) (a : Option Addr) (n cap : Nat) (hc : D.code at_ = 0) (hn : n ≠ 128) :
    Calls Try.prog 37 #[.pointer (some ⟨b, 0, none⟩), .int .i64 at_, .slice a n cap] w (Gives (CodePost 4 (DiskPost w b D F))) := by
  have hm := Lib.hid (may_any h at_)
  have hp := Lib.hid (DiskPost.same h)
  rw [hc] at hm
  have hnb : ((n : Int) != 128) = true := by simp; omega
  clear h hc hn
  go_enter Try.func37, Try.ntmps37
  go_wp2_with ((go_at_call 82; refine hm.out.mono ?_; rintro e w' ⟨rfl, rfl⟩))
  go_ret
  exact ⟨_, rfl, rfl, hp.out⟩

theorem cacheCells_snoc (c : List (Nat × List Int)) (e : Nat × List Int) : cacheCells (c ++ [e]) = cacheCells c ++ entCells e := by simp [cacheCells]
theorem own_form {w : World} {base e size n : Nat} {v : Value} {xs : List Value} (h : w.ownsRow base e size v n xs) : ∃ a cap, v = .slice a n cap := by
  rcases h.2 with ⟨rfl, rfl⟩ | ⟨g, cap, _, hv, _⟩
  · exact ⟨none, 0, rfl⟩
  · exact ⟨_, _, hv⟩
/-- Two blocks of cells of other types are two. -/
theorem ne_of_elem {w : World} {a b : Nat} {ca cb : Array Value} {ta tb : TypeId} {fa fb : Nat × Nat} (ha : w.heap[a]? = some (.cells ca ta fa)) (hb : w.heap[b]? = some (.cells cb tb fb)) (h : ta ≠ tb) : a ≠ b := by
  rintro rfl
  rw [ha] at hb
  simp at hb
  exact h hb.2.1
theorem ne_of_map {w : World} {a b : Nat} {ca : Array Value} {ta : TypeId} {fa : Nat × Nat} {es : Array MapEntry} {ck : Nat} (ha : w.heap[a]? = some (.cells ca ta fa)) (hb : w.heap[b]? = some (.map es ck)) : a ≠ b := by
  rintro rfl
  rw [ha] at hb
  simp at hb
theorem own_elem {w : World} {base e size n g : Nat} {v : Value} {xs : List Value} (h : w.ownsRow base e size v n xs) (hg : v.ownBlock = some g) : ∃ cs, w.heap[g]? = some (.cells cs e (0, 0)) := by
  rcases h.2 with ⟨rfl, rfl⟩ | ⟨g', cap, cur, hv, _, hh, _⟩
  · cases hg
  · subst hv
    obtain rfl : g' = g := by simpa [Value.ownBlock] using hg
    exact ⟨_, hh⟩

theorem write_ok {w : World} {b : Nat} {D : Dk} {F : Nat → Prop} (h : DiskAt w b D F) (k : Nat) (v : Value) (xs : List Int) (hv : BytesAt w v xs) (hc : D.code k = 0) (hn : xs.length = 128) (hcl : D.cache.length ≤ 1000000) :
    Calls Try.prog 37 #[.pointer (some ⟨b, 0, none⟩), .int .i64 k, v] w (Gives (CodePost 0 (DiskPost w b (D.write k xs) F))) := by
  have hm := Lib.hid (may_any h k)
  rw [hc] at hm
  obtain ⟨hf, _, hk1⟩ := Dk.code_zero hc
  have hk : k < D.las.length := by omega
  have hwr : D.write k xs = { D with cache := D.cache ++ [(k, xs)] } := by
    have : D.wcode k xs.length = 0 := by unfold Dk.wcode; rw [if_pos hc, if_pos hn]
    unfold Dk.write; rw [if_pos this, Int.toNat_natCast]
  have okw := h.ok.write k xs
  rw [hwr] at okw ⊢
  obtain ⟨a, dcap, rfl, hdc, hdm, hda⟩ := hv
  obtain ⟨db, do_, rfl, hr⟩ := hda (by intro e; rw [e] at hn; cases hn)
  obtain ⟨bL, bS, csl, es, ck, hb, hbL, hbS, ⟨l, hl, hseen⟩, hown, hF, ok⟩ := id h
  obtain ⟨ca, cc, rfl⟩ := own_form hown
  have h0 := cell_at hb 0 rfl
  have h1 := cell_at hb 1 rfl
  have h2 := cell_at hb 2 rfl
  obtain ⟨es', ck', l', hrun, hl', hfind⟩ := run_update_seen w.drew bS k D.cache.length es ck hbS l hl
  obtain ⟨W2, hW2⟩ : ∃ W2 : World, W2 = { w.drew with heap := w.drew.heap.setIfInBounds bS (.map es' ck') } := ⟨_, rfl⟩
  have hlS := lt_of_heap hbS
  have hk2 : Keep (· = bS) w W2 := by
    subst hW2
    refine ⟨rfl, rfl, rfl, by simp, fun i hi hne => ?_⟩
    show (w.heap.setIfInBounds bS _)[i]? = _
    rw [Array.getElem?_setIfInBounds, if_neg (fun e => hne e.symm)]
  have hS2 : W2.heap[bS]? = some (.map es' ck') := by
    subst hW2
    show (w.heap.setIfInBounds bS _)[bS]? = _
    rw [Array.getElem?_setIfInBounds, if_pos rfl, if_pos hlS]
  have hsz2 : W2.heap.size = w.heap.size := by subst hW2; simp
  rw [← hW2] at hrun
  clear hW2
  have hbS1 : b ≠ bS := ne_of_map hb hbS
  have hLS : bL ≠ bS := ne_of_map hbL hbS
  have hb2 := hk2.at hb hbS1
  have hL2 := hk2.at hbL hLS
  have hown2 := ownsRow_keep hown hk2 (fun x hx e => by
    obtain ⟨cs, hcs⟩ := own_elem hown hx
    exact ne_of_map hcs hbS e)
  have hr2 : W2.rangeAt db do_ (u8s xs) := fun j u hu => by
    have := hr j u hu
    have hdS : db ≠ bS := by
      rintro rfl
      simp [World.cell?, hbS] at this
    rw [World.cell?_of_block (w := w) (hk2.block db (World.block_lt_of_cell? w _ this) hdS)]
    exact this
  have hne : (Value.slice ca D.cache.length cc).ownBlock ≠ some b := fun e => by
    obtain ⟨cs, hcs⟩ := own_elem hown e
    exact ne_of_elem hcs hb (by decide) rfl
  have hneL : (Value.slice ca D.cache.length cc).ownBlock ≠ some bL := fun e => by
    obtain ⟨cs, hcs⟩ := own_elem hown e
    exact ne_of_elem hcs hbL (by decide) rfl
  have hneS : (Value.slice ca D.cache.length cc).ownBlock ≠ some bS := fun e => by
    obtain ⟨cs, hcs⟩ := own_elem hown e
    exact ne_of_map hcs hbS rfl
  have hcore := write_core w W2 b k D.las.length bL bS dcap db do_ xs D.cache.length cc ca (cacheCells D.cache) hm h0 h1 h2 hk hn hrun (cell_at hb2 1 rfl) (free_at hb2 1) hr2 (lt_of_heap hb2) hown2 hcl hne
  rw [hn]
  refine hcore.mono fun e w' hg => ?_
  obtain ⟨_, rfl, rfl, g, cap, w1, hown1, hgrow, hat, hlt, rfl⟩ := hg
  have hkA : Keep (fun x => (Value.slice ca D.cache.length cc).ownBlock = some x) W2 w1 := (Keep.drew _ W2).trans' ((Keep.alloc _ W2.drew _).trans' (Keep.grown hgrow (fun x hx => hx)))
  have hb1 := hkA.at hb2 hne
  have hL1 := hkA.at hL2 hneL
  have hS1 := hkA.at hS2 hneS
  obtain ⟨gcs, hg1⟩ := own_elem hown1 rfl
  have hgb : g ≠ b := ne_of_elem hg1 hb1 (by decide)
  have hkB : Keep (· = b) w1 (w1.setCell ⟨b, 1, none⟩ (.slice (some ⟨g, 0, none⟩) (D.cache.length + 1) cap)) := Keep.setCell _ _ _ rfl
  have hbF := heap_setCell_same w1 b 1 _ _ (.slice (some ⟨g, 0, none⟩) (D.cache.length + 1) cap) hb1
  have hgF : g = w.heap.size + 1 ∨ (Value.slice ca D.cache.length cc).ownBlock = some g := by rw [← hsz2]; exact hat.symm
  refine ⟨_, rfl, rfl, fun x => x = b ∨ x = bL ∨ x = bS ∨ x = g, ⟨bL, bS, .slice (some ⟨g, 0, none⟩) (D.cache.length + 1) cap, es', ck', ?_, hkB.at hL1 (ne_of_elem hL1 hb1 (by decide)), hkB.at hS1 (fun e => ne_of_map hb1 hS1 e.symm), SeenOk.update (es := es) hseen hl' hfind, ?_, ?_, okw⟩, ?_, ?_⟩
  · simpa using hbF
  · have := ownsRow_keep hown1 hkB (fun x hx e => hgb (by simp [Value.ownBlock] at hx; rw [hx]; exact e))
    simpa [cacheCells_snoc, entCells] using this
  · intro x
    simp [Value.ownBlock]
    constructor <;> rintro (h | h | h | h) <;> simp [h]
  · refine ((hk2.mono (G := F) fun x _ e => (hF x).2 (.inr (.inr (.inl e)))).trans (G := fun x => (Value.slice ca D.cache.length cc).ownBlock = some x) hkA fun x _ hx => (hF x).2 (.inr (.inr (.inr hx)))).trans (G := (· = b)) hkB fun x _ e => (hF x).2 (.inl e)
  · rintro x (rfl | rfl | rfl | rfl)
    · exact .inl ((hF _).2 (.inl rfl))
    · exact .inl ((hF _).2 (.inr (.inl rfl)))
    · exact .inl ((hF _).2 (.inr (.inr (.inl rfl))))
    · rcases hgF with h | h
      · exact .inr (by omega)
      · exact .inl ((hF _).2 (.inr (.inr (.inr h))))

theorem write_any {w : World} {b : Nat} {D : Dk} {F : Nat → Prop} (h : DiskAt w b D F) (at_ : Int) (v : Value) (xs : List Int) (hv : BytesAt w v xs) (hcl : D.cache.length ≤ 1000000) :
    Calls Try.prog 37 #[.pointer (some ⟨b, 0, none⟩), .int .i64 at_, v] w (Gives (CodePost (D.wcode at_ xs.length) (DiskPost w b (D.write at_ xs) F))) := by
  by_cases hc : D.code at_ = 0
  · by_cases hn : xs.length = 128
    · obtain ⟨k, rfl⟩ := Int.eq_ofNat_of_zero_le (Dk.code_zero hc).2.1
      have : D.wcode k xs.length = 0 := by unfold Dk.wcode; rw [if_pos hc, if_pos hn]
      rw [this]
      exact write_ok h k v xs hv hc hn hcl
    · obtain ⟨a, cap, rfl, _⟩ := hv
      have h4 : D.wcode at_ xs.length = 4 := by unfold Dk.wcode; rw [if_pos hc, if_neg hn]
      have : D.write at_ xs = D := by unfold Dk.write; rw [h4, if_neg (by decide)]
      rw [h4, this]
      exact write_len h at_ a _ cap hc hn
  · have hw : D.wcode at_ xs.length = D.code at_ := by unfold Dk.wcode; rw [if_neg hc]
    have : D.write at_ xs = D := by unfold Dk.write; rw [hw, if_neg hc]
    rw [hw, this]
    exact write_bad h at_ v hc
end Go.Proofs.Ytghnbbpoaeheaaa
