/- What is lent, of bools: a copy with two marks behind it; looked at, written over. -/
import Derived.Test.YtghnbbpoaeheaaaDL15
import Derived.Test.YtghnbbpoaeheaaaDL17
import Derived.Test.YtghnbbpoaeheaaaDL20
namespace Go.Proofs.Ytghnbbpoaeheaaa
open Go.RowKit

abbrev bls (l : List Bool) : List Value := l.map Value.bool
theorem length_bls (l : List Bool) : (bls l).length = l.length := by simp
theorem bls_append (a b : List Bool) : bls (a ++ b) = bls a ++ bls b := by simp
theorem bls_one (l : List Bool) : ∀ v ∈ bls l, v.oneCell' = true := by
  intro v hv; obtain ⟨n, _, rfl⟩ := List.mem_map.1 hv; rfl
theorem i4 : (Try.prog.info? 4).map (fun i => (i.zero, i.size, i.bytes)) = some (some (.bool false), 1, 1) := by kernel_rfl
section
variable {ops : Array Oper} {rest : List Oper} {o : Oper} {a : Act} {w : World} {Q : Exit → Act → World → Prop}
theorem wpList_app57 (hgd : o.guard = none) (s x : Operand) (ho : o.op = .call { callee := .builtin .append, args := #[s, x], argTypes := #[57, 57] })
    (base : Nat) (v : Value) (n : Nat) (xs : List Value) (hs : a.eval s = v) (hown : w.ownsRow base 4 1 v n xs)
    (ad : Addr) (m c : Nat) (news : List Value) (hx : a.eval x = .slice (some ad) m c) (hl : news.length = m) (hnews : ∀ j u, news[j]? = some u → w.cell? (ad.add j) = some u) (h1 : ∀ u ∈ news, u.oneCell' = true)
    (hb : n + m ≤ 1073741824) (hbase : base ≤ w.heap.size)
    (h : ∀ v' w', w'.ownsRow base 4 1 v' (n + m) (xs ++ news) → w.grownBy w' v.ownBlock → (v' = .slice none 0 0 ↔ v = .slice none 0 0 ∧ m = 0) → wpList Try.prog ops Q rest (a.put o.dst v') w') : wpList Try.prog ops Q (o :: rest) a w := by
  obtain ⟨i, hi, he⟩ := info_of i4
  simp only [Prod.mk.injEq] at he
  exact wpList_append_own w hgd s x 57 ho base 4 i (.bool false) 1 1 Try.underlying57 hi he.1 he.2.1 he.2.2 rfl (by decide) v n xs hs hown ad m c news hx (by omega) hnews h1 (by unfold maxLen; omega) (by omega) hbase h
end

set_option maxRecDepth 100000 in
set_option maxHeartbeats 1000000 in
theorem sameBools_loop (w : World) (b1 o1 c1 b2 o2 c2 : Nat) (l1 l2 : List Bool) (hlen : l1.length = l2.length) (hne : l1 ≠ []) (hm : l1.length ≤ maxLen) (h1 : w.rangeAt b1 o1 (bls l1)) (h2 : w.rangeAt b2 o2 (bls l2)) :
    Calls Try.prog 100 #[.slice (some ⟨b1, o1, none⟩) l1.length c1, .slice (some ⟨b2, o2, none⟩) l2.length c2] w (Gives fun v w' => v = .bool (decide (l1 = l2)) ∧ Keep NoF w w') := by
  have H1 := Lib.hid h1
  have H2 := Lib.hid h2
  have HL := Lib.hid hlen
  have hpos : 0 < l1.length := List.length_pos_iff.2 hne
  have hle : (l1.length : Int) ≤ 9223372036854775807 := by unfold maxLen at hm; omega
  rw [← hlen]
  clear h1 h2 hlen hne hm
  go_enter Try.func100, Try.ntmps100
  go_wp2
  go_loopw [5] (fun t wr => ∃ i : Nat, i ≤ l1.length ∧ t = .int .i64 i ∧ l1.take i = l2.take i ∧ Keep NoF w wr) (fun t _ => l1.length - (intOf t).toNat)
  case atStart => exact ⟨0, Nat.zero_le _, rfl, by simp, Keep.refl _ _⟩
  case round =>
    obtain ⟨i, hi, rfl, htk, hkeep⟩ := hrel
    by_cases hlt : i < l1.length
    · have hlt2 : i < l2.length := HL.out ▸ hlt
      obtain ⟨x, hx⟩ : ∃ x, l1[i]? = some x := ⟨_, List.getElem?_eq_getElem hlt⟩
      obtain ⟨y, hy⟩ : ∃ y, l2[i]? = some y := ⟨_, List.getElem?_eq_getElem hlt2⟩
      have hc1 : wr.cell? ⟨b1, o1 + i, none⟩ = some (.bool x) := by
        have h := H1.out i (.bool x) (by simp [bls, hx])
        rw [World.cell?_of_block (w := w) (hkeep.block b1 (World.block_lt_of_cell? w _ h) (fun h => h))]; exact h
      have hc2 : wr.cell? ⟨b2, o2 + i, none⟩ = some (.bool y) := by
        have h := H2.out i (.bool y) (by simp [bls, hy])
        rw [World.cell?_of_block (w := w) (hkeep.block b2 (World.block_lt_of_cell? w _ h) (fun h => h))]; exact h
      have HK : Hid (∀ nq, Keep NoF w (wr.drewN nq)) := fun nq => hkeep.trans' (Keep.drewN _ _ _)
      by_cases hxy : x = y
      · have HT : Hid (l1.take (i + 1) = l2.take (i + 1)) := by
          show _ = _
          rw [List.take_add_one, List.take_add_one, htk, hx, hy, hxy]
        subst hxy
        clear hx hy htk hkeep hlt2
        go_wp2
        go_quiet (fail)
        go_wp2
        all_goals exact ⟨⟨i + 1, by omega, by go_num, HT.out, HK.out _⟩, by simp [intOf]; omega⟩
      · have HD : Hid (decide (l1 = l2) = false) := by
          show _ = _
          simp only [decide_eq_false_iff_not]
          rintro rfl
          rw [hx] at hy
          exact hxy (Option.some.inj hy)
        clear hx hy htk hkeep hlt2
        cases x <;> cases y <;> first
          | exact absurd rfl hxy
          | (clear hxy
             go_wp2
             go_quiet (fail)
             go_wp2
             go_ret
             exact ⟨_, rfl, by rw [HD.out]; rfl, HK.out _⟩)
    · have hie : i = l1.length := by omega
      subst hie
      have HD : Hid (decide (l1 = l2) = true) := by
        show _ = _
        simp only [decide_eq_true_eq]
        rw [List.take_length, HL.out, List.take_length] at htk
        exact htk
      have HK := Lib.hid hkeep
      clear htk hkeep
      go_wp2
      go_ret
      exact ⟨_, rfl, by rw [HD.out]; rfl, HK.out⟩

theorem sameBools_any {w : World} {v1 v2 : Value} {l1 l2 : List Bool} (h1 : BoolsAt w v1 l1) (h2 : BoolsAt w v2 l2) : Calls Try.prog 100 #[v1, v2] w (Gives fun v w' => v = .bool (decide (l1 = l2)) ∧ Keep NoF w w') := by
  obtain ⟨a1, c1, rfl, p1, r1⟩ := h1
  obtain ⟨a2, c2, rfl, p2, r2⟩ := h2
  by_cases hl : l1.length = l2.length
  · by_cases hne : l1 = []
    · subst hne
      have : l2 = [] := List.length_eq_zero_iff.1 hl.symm
      subst this
      clear p1 r1 p2 r2 hl
      go_enter Try.func100, Try.ntmps100
      go_wp2
      refine wp_loop_rounds 1 ?_
      rw [rounds_succ]
      go_wp2
      go_ret
      exact ⟨_, rfl, by simp, Keep.refl _ _⟩
    · have hne2 : l2 ≠ [] := by rintro rfl; exact hne (List.length_eq_zero_iff.1 hl)
      obtain ⟨b1, o1, rfl, s1⟩ := r1 hne
      obtain ⟨b2, o2, rfl, s2⟩ := r2 hne2
      exact sameBools_loop w b1 o1 c1 b2 o2 c2 l1 l2 hl hne p1 s1 s2
  · have HD : Hid (decide (l1 = l2) = false) := by
      show _ = _
      simp only [decide_eq_false_iff_not]
      rintro rfl
      exact hl rfl
    have hne : ((l1.length : Int) != (l2.length : Int)) = true := by simp; omega
    clear p1 r1 p2 r2
    go_enter Try.func100, Try.ntmps100
    go_wp2
    go_ret
    exact ⟨_, rfl, by rw [HD.out]; rfl, Keep.refl _ _⟩
def LentBAt (w : World) (s : Value) (l : List Bool) (g : Nat) : Prop :=
  ∃ cap cur, s = .slice (some ⟨g, 0, none⟩) l.length cap ∧ w.heap[g]? = some (.cells cur 4 (0, 0)) ∧ l.length + 2 ≤ cap ∧ cap ≤ maxLen ∧ cur.size = cap ∧ cur.toList.take (l.length + 2) = bls (l ++ [true, false])
theorem LentBAt.keep {w w' : World} {s : Value} {l : List Bool} {g : Nat} {G : Nat → Prop} (h : LentBAt w s l g) (hk : Keep G w w') (hG : ¬ G g) : LentBAt w' s l g := by
  obtain ⟨cap, cur, h1, h2, h3⟩ := h; exact ⟨cap, cur, h1, hk.at h2 hG, h3⟩
theorem LentBAt.range {w : World} {s : Value} {l : List Bool} {g : Nat} (h : LentBAt w s l g) : w.rangeAt g 0 (bls (l ++ [true, false])) := by
  obtain ⟨cap, cur, h1, h2, h3, h4, h5, h6⟩ := h
  refine range_at h2 0 _ ?_
  rw [List.drop_zero]
  simpa using h6
theorem LentBAt.bytes {w : World} {s : Value} {l : List Bool} {g : Nat} (h : LentBAt w s l g) : BoolsAt w s l := by
  have hr := h.range
  obtain ⟨cap, cur, h1, h2, h3, h4, h5, h6⟩ := h
  refine ⟨_, cap, h1, by omega, fun _ => ⟨g, 0, rfl, fun j v hj => hr j v ?_⟩⟩
  rw [bls_append, List.getElem?_append_left (by simpa using (List.getElem?_eq_some_iff.1 hj).1)]
  exact hj
theorem wpList_make57o {ops : Array Oper} {rest : List Oper} {o : Oper} {a : Act} {Q : Exit → Act → World → Prop} {w : World} (hg : o.guard = none) (l c : Operand) (hop : o.op = Op.makeSlice 57 l c)
    (C : Int) (n : Nat) (hl : a.eval l = .int .i64 0) (hc : a.eval c = .int .i64 C) (hC : C = (n : Int)) (b2 : n ≤ 1073741824)
    (hK : ∀ w', w'.ownsRow w.heap.size 4 1 (.slice (some ⟨w.heap.size, 0, none⟩) 0 n) 0 [] → w.grownBy w' none → wpList Try.prog ops Q rest (a.put o.dst (.slice (some ⟨w.heap.size, 0, none⟩) 0 n)) w') : wpList Try.prog ops Q (o :: rest) a w := by
  obtain ⟨i, hi, he⟩ := info_of i4
  simp only [Prod.mk.injEq] at he
  obtain ⟨he1, he2, he3⟩ := he
  exact wpList_make_own w hg l c 57 hop w.heap.size 4 i _ 1 Try.underlying57 hi he1 he2 .i64 .i64 C n hl hc hC (by rw [he3]; omega) (by unfold maxLen; omega) (Nat.le_refl _) hK
theorem run_append57_none (w : World) (ty : TypeId) (b : Option Addr) (n c : Nat) (h : n ≤ c) (x : Option Addr) (k : Nat) : (Builtin.append_ #[57, 57] ty #[.slice b n c, .slice x 0 k]).run Try.prog w = .ok (.slice b n c) w := by
  obtain ⟨i, hi, he⟩ := info_of i4
  have hl : ∀ (x : Addr), (loadCells x 0).run Try.prog w = .ok #[] w := fun x => by simpa using run_loadCells_list (P := Try.prog) w x [] (by simp)
  cases b <;> cases x <;> simp [Builtin.append_, run_underlying Try.underlying57, sizeOf, typeInfo, hi, h, storeCells, Builtin.lenOf, Builtin.firstCells, hl]
theorem wpList_app57n {ops : Array Oper} {rest : List Oper} {o : Oper} {a : Act} {Q : Exit → Act → World → Prop} {w : World} (hgd : o.guard = none) (s x : Operand) (ho : o.op = .call { callee := .builtin .append, args := #[s, x], argTypes := #[57, 57] })
    (b : Option Addr) (n c : Nat) (hs : a.eval s = .slice b n c) (hle : n ≤ c) (ax : Option Addr) (k : Nat) (hx : a.eval x = .slice ax 0 k) (h : wpList Try.prog ops Q rest (a.put o.dst (.slice b n c)) w) : wpList Try.prog ops Q (o :: rest) a w := by
  refine wpList_plain hgd fun K hK => ?_
  have hrun := run_append57_none w o.type b n c hle ax k
  unfold Oper.wp
  simp [execOp, ho, resolve, invoke, builtin, hs, hx, hrun, Result.andThen]
  exact hK _ _ h
theorem ownB_some {w : World} {base n : Nat} {v : Value} {xs : List Value} (h : w.ownsRow base 4 1 v (n + 1) xs) : ∃ g cap cur, v = .slice (some ⟨g, 0, none⟩) (n + 1) cap ∧ base ≤ g ∧ w.heap[g]? = some (.cells cur 4 (0, 0)) ∧ n + 1 ≤ cap ∧ cap ≤ maxLen ∧ cur.size = cap ∧ cur.toList.take (n + 1) = xs := by
  rcases h.2 with ⟨_, h0⟩ | ⟨g, cap, cur, hv, hg, hh, hc, hm, hs, ht⟩
  · omega
  · exact ⟨g, cap, cur, hv, hg, hh, hc, hm, by simpa using hs, by simpa using ht⟩

set_option maxRecDepth 100000 in
set_option maxHeartbeats 1000000 in
theorem lentB_any {w : World} {v : Value} {l : List Bool} (hv : BoolsAt w v l) (hn : l.length ≤ 1000000000) : Calls Try.prog 56 #[v] w (Gives fun s w' => ∃ g, LentBAt w' s l g ∧ w.heap.size ≤ g ∧ Keep NoF w w') := by
  obtain ⟨a, cap, rfl, h1, h3⟩ := hv
  have hw1 : IntKind.i64.wrap ((l.length : Int) + 2) = l.length + 2 := IntWalk.i64_in _ (by omega)
  have HP : Hid (∀ w1 w2 w3 v1 v2, w1.ownsRow w.heap.size 4 1 v1 l.length (bls l) → Keep NoF w w1 → (w1.alloc (.cells #[.bool true, .bool false] 4)).grownBy w2 v1.ownBlock → w2.ownsRow w.heap.size 4 1 v2 (l.length + 2) (bls l ++ [.bool true, .bool false]) → Keep NoF w2 w3 →
      ∃ g cap, v2 = .slice (some ⟨g, 0, none⟩) (l.length + 2) cap ∧ l.length + 2 ≤ cap ∧ ∃ g', LentBAt w3 (.slice (some ⟨g, 0, none⟩) l.length cap) l g' ∧ w.heap.size ≤ g' ∧ Keep NoF w w3) := fun w1 w2 w3 v1 v2 ho1 hk1 hg ho2 hk3 => by
    obtain ⟨g, cap, cur, hv, hge, hh, hc, hm, hs, ht⟩ := ownB_some (n := l.length + 1) ho2
    refine ⟨g, cap, hv, hc, g, ⟨cap, cur, rfl, hk3.at hh (fun h => h), hc, hm, hs, ?_⟩, hge, ?_⟩
    · rw [bls_append]; exact ht
    · refine Keep.trans' (hk1.trans (G := fun x => v1.ownBlock = some x) ((Keep.alloc _ _ _).trans' (Keep.grown hg fun x hx => hx)) fun x hx e => ?_) hk3
      have := (ho1.lt x e).1
      omega
  have HL : Hid ((bls l).length = l.length) := length_bls _
  have HU := Lib.hid (bls_one l)
  have H91 : Hid (∀ (w1 : World) j u, [Value.bool true, .bool false][j]? = some u → (w1.alloc (.cells #[.bool true, .bool false] 4)).cell? ((⟨w1.heap.size, 0, none⟩ : Addr).add j) = some u) := fun w1 j u hj => by
    have hadd : (⟨w1.heap.size, 0, none⟩ : Addr).add j = ⟨w1.heap.size, 0 + j, none⟩ := by unfold Addr.add; split <;> simp_all
    rw [hadd]
    exact cell_at (heap_alloc_new w1 _) _ (by simpa using hj)
  have H2 : Hid (∀ u ∈ [Value.bool true, .bool false], u.oneCell' = true) := fun u hu => by
    rcases List.mem_cons.1 hu with rfl | hu
    · rfl
    · obtain rfl : u = .bool false := by simpa using hu
      rfl
  by_cases h0 : l.length = 0
  · obtain rfl : l = [] := List.length_eq_zero_iff.1 h0
    have HG1 : Hid (∀ w1, w.grownBy w1 none → Keep NoF w w1) := fun w1 hg => Keep.grown hg (fun x hx => by cases hx)
    clear h1 h3 h0 hw1 hn HL HU
    go_enter Try.func56, Try.ntmps56
    go_wp2_with (first | (at_make; go_must (refine wpList_make57o rfl _ _ rfl _ 2 rfl rfl (by rfl) (by omega) ?_); intro w1 ho hg; have HO1 := Lib.hid ho; have HG := Lib.hid hg; clear ho hg) |
      (at_builtin; refine wpList_app57 rfl _ _ rfl w.heap.size _ 0 [] rfl (World.ownsRow.alloc HO1.out _) ⟨w1.heap.size, 0, none⟩ 2 2 [.bool true, .bool false] rfl rfl (H91.out w1) H2.out (by omega) (by have := (HG1.out _ HG.out).size; simp; omega) ?_; intro v3 w3 ho hg _; obtain ⟨g, cap3, rfl, hc3, hp3⟩ := HP.out w1 w3 w3 _ v3 HO1.out (HG1.out _ HG.out) hg ho (Keep.refl _ _); have HP3 := Lib.hid hp3; clear ho hg hp3) |
      (at_builtin; go_must (refine wpList_app57n rfl _ _ rfl _ 0 2 rfl (by omega) a cap rfl ?_)))
    go_ret
    exact ⟨_, rfl, HP3.out⟩
  · obtain ⟨bb, o, rfl, hr⟩ := h3 (by rintro rfl; simp at h0)
    have HN : Hid (∀ w1, Keep NoF w w1 → ∀ j u, (bls l)[j]? = some u → w1.cell? ((⟨bb, o, none⟩ : Addr).add j) = some u) := fun w1 hk j u hj => by
      have hadd : (⟨bb, o, none⟩ : Addr).add j = ⟨bb, o + j, none⟩ := by unfold Addr.add; split <;> simp_all
      rw [hadd]
      exact hk.cell (hr j u hj) (fun h => h)
    have HK2 : Hid (∀ w1 w2 v1, w.grownBy w1 none → w1.ownsRow w.heap.size 4 1 v1 0 [] → w1.grownBy w2 v1.ownBlock → Keep NoF w w2) := fun w1 w2 v1 hg1 ho hg2 => by
      have hk1 : Keep NoF w w1 := Keep.grown hg1 (fun x hx => by cases hx)
      exact hk1.trans (G := fun x => v1.ownBlock = some x) (Keep.grown hg2 fun x hx => hx) fun x hx e => by have := (ho.lt x e).1; omega
    have HG1 : Hid (∀ w1, w.grownBy w1 none → Keep NoF w w1) := fun w1 hg => Keep.grown hg (fun x hx => by cases hx)
    clear h1 h3 hr
    generalize hln : l.length = n at *
    go_enter Try.func56, Try.ntmps56
    go_wp2_with (first | (at_make; go_must (refine wpList_make57o rfl _ _ rfl _ (n + 2) rfl rfl (by omega) (by omega) ?_); intro w1 ho hg; have HO1 := Lib.hid ho; have HG := Lib.hid hg; clear ho hg) |
      (at_builtin; refine wpList_app57 rfl _ _ rfl w.heap.size _ n (bls l) rfl (World.ownsRow.alloc HO2.out _) ⟨w2.heap.size, 0, none⟩ 2 2 [.bool true, .bool false] rfl rfl (H91.out w2) H2.out (by omega) (by have := HK.out.size; simp; omega) ?_; intro v3 w3 ho hg _; obtain ⟨g, cap3, rfl, hc3, hp3⟩ := HP.out w2 w3 w3 v2 v3 HO2.out HK.out hg ho (Keep.refl _ _); have HP3 := Lib.hid hp3; clear ho hg hp3) |
      (at_builtin; go_must (refine wpList_app57 rfl _ _ rfl w.heap.size _ 0 [] rfl HO1.out ⟨bb, o, none⟩ n cap (bls l) rfl HL.out (HN.out _ (HG1.out _ HG.out)) HU.out (by omega) (HG1.out _ HG.out).size ?_); intro v2 w2 ho hg _; have HO2 : Hid (w2.ownsRow w.heap.size 4 1 v2 n (bls l)) := (by have h := ho; rw [Nat.zero_add, List.nil_append] at h; exact h); have HK := Lib.hid (HK2.out _ _ _ HG.out HO1.out hg); clear ho hg))
    go_ret
    exact ⟨_, rfl, HP3.out⟩

set_option maxRecDepth 100000 in
set_option maxHeartbeats 1000000 in
/-- What was lent is as it was. -/
theorem wholeB_any {w : World} {s v : Value} {l : List Bool} {g : Nat} (h : LentBAt w s l g) (hv : BoolsAt w v l) (hn : l.length ≤ 1000000000) : Calls Try.prog 58 #[s, v] w (Gives fun v w' => v = .bool true ∧ Keep NoF w w') := by
  have hr := h.range
  have HSA := Lib.hid (sameBools_any h.bytes hv)
  obtain ⟨cap, cur, rfl, h2, h3, h4, h5, h6⟩ := h
  have c1 : w.cell? ⟨g, l.length, none⟩ = some (.bool true) := by
    have := hr l.length (.bool true) (by simp [bls])
    simpa using this
  have c2 : w.cell? ⟨g, l.length + 1, none⟩ = some (.bool false) := by
    have := hr (l.length + 1) (.bool false) (by simp [bls])
    simpa using this
  unfold maxLen at h4
  have hcl : (cap : Int) ≤ 9223372036854775807 := by omega
  simp only [decide_true] at HSA
  generalize l.length = n at *
  clear hr h2 h5 h6 hv
  go_enter Try.func58, Try.ntmps58
  go_wp2_with (go_at_call 100; go_must (refine HSA.out.mono ?_); rintro e w' ⟨v, rfl, rfl, hv⟩; have HK := Lib.hid hv; clear hv)
  go_ret
  exact ⟨_, rfl, rfl, HK.out⟩

set_option maxRecDepth 100000 in
set_option maxHeartbeats 1000000 in
/-- Its owner writes over it. -/
theorem spoilB_any {w : World} {s : Value} {l : List Bool} {g : Nat} (h : LentBAt w s l g) : Calls Try.prog 59 #[s] w (Gives fun v w' => v = .tuple #[] ∧ Keep (· = g) w w') := by
  obtain ⟨cap, cur, rfl, h2, h3, h4, h5, h6⟩ := h
  unfold maxLen at h4
  have hcl : (cap : Int) ≤ 9223372036854775807 := by omega
  have hle : l.length ≤ cap := by omega
  generalize l.length = n at *
  have H0 : Hid (∃ cs, w.heap[g]? = some (Obj.cells cs 4 (0, 0)) ∧ cs.size = cap) := ⟨cur, h2, h5⟩
  clear h2 h3 h5 h6
  go_enter Try.func59, Try.ntmps59
  go_wp2
  go_loopw [3] (fun t wr => ∃ i : Nat, i ≤ cap ∧ t = .int .i64 i ∧ (∃ cs, wr.heap[g]? = some (Obj.cells cs 4 (0, 0)) ∧ cs.size = cap) ∧ Keep (· = g) w wr) (fun t _ => cap - (intOf t).toNat)
  case atStart => exact ⟨0, by omega, rfl, H0.out, Keep.refl _ _⟩
  case round =>
    obtain ⟨i, hi, rfl, ⟨cs, hc1, hc2⟩, hk⟩ := hrel
    by_cases hlt : i < cap
    · obtain ⟨u, hu⟩ : ∃ u, cs[i]? = some u := ⟨_, Array.getElem?_eq_getElem (by omega)⟩
      have c := cell_at hc1 i hu
      have f := free_at hc1 i
      have hlt2 := lt_of_heap hc1
      have HN : Hid ((∃ cs, (wr.setCell ⟨g, i, none⟩ (.bool true)).heap[g]? = some (Obj.cells cs 4 (0, 0)) ∧ cs.size = cap) ∧ Keep (· = g) w (wr.setCell ⟨g, i, none⟩ (.bool true))) :=
        ⟨⟨_, heap_setCell_same wr g i _ _ (.bool true) hc1, by simpa using hc2⟩, hk.trans' (Keep.setCell (F := (· = g)) wr ⟨g, i, none⟩ (.bool true) rfl)⟩
      clear hc1 hk hu
      go_wp2
      exact ⟨⟨i + 1, by omega, by go_num, HN.out.1, HN.out.2⟩, by simp [intOf]; omega⟩
    · obtain rfl : i = cap := by omega
      have HK := Lib.hid hk
      clear hk hc1
      go_wp2
      go_end0
      exact ⟨_, rfl, rfl, HK.out⟩
end Go.Proofs.Ytghnbbpoaeheaaa

/- What a call holds in rows of its own, part by part: parts that lie apart. -/
namespace Go.Proofs.Ytghnbbpoaeheaaa
open Go.RowKit

structure Part where
  P : World → Prop
  F : Nat → Prop
  keep : ∀ {w w' : World} {G : Nat → Prop}, P w → Keep G w w' → (∀ x, F x → ¬ G x) → P w'
  lt : ∀ {w : World}, P w → ∀ x, F x → x < w.heap.size
/-- The parts stand, apart from one another, in rows newer than W; what W holds stands. -/
structure All (W : World) (ps : List Part) (w : World) : Prop where
  holds : ∀ p ∈ ps, p.P w
  apart : ps.Pairwise fun p q => ∀ x, p.F x → ¬ q.F x
  fresh : ∀ p ∈ ps, ∀ x, p.F x → W.heap.size ≤ x
  kept : Keep (Old W) W w
section
variable {W w w' : World} {p p' q : Part} {ps : List Part}
theorem All.none (W : World) : All W [] W := ⟨fun p hp => (by cases hp), List.Pairwise.nil, fun p hp => (by cases hp), Keep.refl _ _⟩
theorem All.tail (h : All W (p :: ps) w) : All W ps w := ⟨fun q hq => h.holds q (List.mem_cons_of_mem _ hq), (List.pairwise_cons.1 h.apart).2, fun q hq => h.fresh q (List.mem_cons_of_mem _ hq), h.kept⟩
theorem All.swap (h : All W (p :: q :: ps) w) : All W (q :: p :: ps) w := by
  obtain ⟨h1, h2, h3, h4⟩ := h
  rw [List.pairwise_cons, List.pairwise_cons] at h2
  obtain ⟨a1, a2, a3⟩ := h2
  have hmem : ∀ r, r ∈ q :: p :: ps → r ∈ p :: q :: ps := fun r hr => by
    simp only [List.mem_cons] at hr ⊢
    rcases hr with h | h | h
    · exact .inr (.inl h)
    · exact .inl h
    · exact .inr (.inr h)
  refine ⟨fun r hr => h1 r (hmem r hr), ?_, fun r hr => h3 r (hmem r hr), h4⟩
  rw [List.pairwise_cons, List.pairwise_cons]
  refine ⟨fun r hr x hx => ?_, fun r hr => a1 r (List.mem_cons_of_mem _ hr), a3⟩
  rcases List.mem_cons.1 hr with rfl | hr
  · exact fun hp => a1 q List.mem_cons_self x hp hx
  · exact a2 r hr x hx
theorem All.third {r : Part} (h : All W (p :: q :: r :: ps) w) : All W (r :: p :: q :: ps) w := by
  obtain ⟨h1, h2, h3, h4⟩ := h
  have hmem : ∀ s, s ∈ r :: p :: q :: ps → s ∈ p :: q :: r :: ps := fun s hs => by
    simp only [List.mem_cons] at hs ⊢
    rcases hs with h | h | h | h
    · exact .inr (.inr (.inl h))
    · exact .inl h
    · exact .inr (.inl h)
    · exact .inr (.inr (.inr h))
  refine ⟨fun r hr => h1 r (hmem r hr), ?_, fun r hr => h3 r (hmem r hr), h4⟩
  simp only [List.pairwise_cons, List.mem_cons] at h2 ⊢
  obtain ⟨a1, a2, a3, a4⟩ := h2
  refine ⟨fun s hs x hx => ?_, fun s hs => ?_, fun s hs => a2 s (.inr hs), a4⟩
  · rcases hs with rfl | rfl | hs
    · exact fun hp => a1 r (.inr (.inl rfl)) x hp hx
    · exact fun hp => a2 r (.inl rfl) x hp hx
    · exact a3 s hs x hx
  · rcases hs with rfl | hs
    · exact a1 _ (.inl rfl)
    · exact a1 s (.inr (.inr hs))
/-- The third one behind a step, back to its place. -/
theorem All.back {r : Part} (h : All W (r :: p :: q :: ps) w) : All W (p :: q :: r :: ps) w := h.third.third
theorem All.size (h : All W ps w) : W.heap.size ≤ w.heap.size := h.kept.size
theorem All.head (h : All W (p :: ps) w) : p.P w := h.holds p List.mem_cons_self
/-- A call that turns the first part alone. -/
theorem All.step (h : All W (p :: ps) w) (hk : Keep p.F w w') (hp : p'.P w') (hF : ∀ x, p'.F x → p.F x ∨ w.heap.size ≤ x) : All W (p' :: ps) w' := by
  have hsz := h.size
  obtain ⟨h1, h2, h3, h4⟩ := h
  rw [List.pairwise_cons] at h2
  refine ⟨fun q hq => ?_, ?_, fun q hq x hx => ?_, h4.trans' (hk.mono fun x _ hx => h3 p List.mem_cons_self x hx)⟩
  · rcases List.mem_cons.1 hq with rfl | hq
    · exact hp
    · exact q.keep (h1 q (List.mem_cons_of_mem _ hq)) hk fun x hx hx2 => h2.1 q hq x hx2 hx
  · rw [List.pairwise_cons]
    refine ⟨fun q hq x hx hx2 => ?_, h2.2⟩
    rcases hF x hx with hx | hx
    · exact h2.1 q hq x hx hx2
    · have := q.lt (h1 q (List.mem_cons_of_mem _ hq)) x hx2
      omega
  · rcases List.mem_cons.1 hq with rfl | hq
    · rcases hF x hx with hx | hx
      · exact h3 p List.mem_cons_self x hx
      · omega
    · exact h3 q (List.mem_cons_of_mem _ hq) x hx
theorem All.quiet (h : All W ps w) (hk : Keep NoF w w') : All W ps w' :=
  ⟨fun q hq => q.keep (h.holds q hq) hk fun _ _ h => h, h.apart, h.fresh, h.kept.trans' (hk.mono fun _ _ h => h.elim)⟩
/-- A part more, in rows that are new. -/
theorem All.new (h : All W ps w) (hk : Keep NoF w w') (hp : p'.P w') (hF : ∀ x, p'.F x → w.heap.size ≤ x) : All W (p' :: ps) w' := by
  have hsz := h.size
  have hq := h.quiet hk
  refine ⟨fun q hq2 => ?_, ?_, fun q hq2 x hx => ?_, hq.kept⟩
  · rcases List.mem_cons.1 hq2 with rfl | hq2
    · exact hp
    · exact hq.holds q hq2
  · rw [List.pairwise_cons]
    refine ⟨fun q hq2 x hx hx2 => ?_, h.apart⟩
    have := q.lt (h.holds q hq2) x hx2
    have := hF x hx
    omega
  · rcases List.mem_cons.1 hq2 with rfl | hq2
    · have := hF x hx; omega
    · exact h.fresh q hq2 x hx
/-- A call by which the first part takes in the second. -/
theorem All.join (h : All W (p :: q :: ps) w) (hk : Keep p.F w w') (hp : p'.P w') (hF : ∀ x, p'.F x → p.F x ∨ q.F x ∨ w.heap.size ≤ x) : All W (p' :: ps) w' := by
  have hsz := h.size
  obtain ⟨h1, h2, h3, h4⟩ := h
  rw [List.pairwise_cons, List.pairwise_cons] at h2
  refine ⟨fun r hr => ?_, ?_, fun r hr x hx => ?_, h4.trans' (hk.mono fun x _ hx => h3 p List.mem_cons_self x hx)⟩
  · rcases List.mem_cons.1 hr with rfl | hr
    · exact hp
    · exact r.keep (h1 r (List.mem_cons_of_mem _ (List.mem_cons_of_mem _ hr))) hk fun x hx hx2 => h2.1 r (List.mem_cons_of_mem _ hr) x hx2 hx
  · rw [List.pairwise_cons]
    refine ⟨fun r hr x hx hx2 => ?_, h2.2.2⟩
    rcases hF x hx with hx | hx | hx
    · exact h2.1 r (List.mem_cons_of_mem _ hr) x hx hx2
    · exact h2.2.1 r hr x hx hx2
    · have := r.lt (h1 r (List.mem_cons_of_mem _ (List.mem_cons_of_mem _ hr))) x hx2
      omega
  · rcases List.mem_cons.1 hr with rfl | hr
    · rcases hF x hx with hx | hx | hx
      · exact h3 p List.mem_cons_self x hx
      · exact h3 q (List.mem_cons_of_mem _ List.mem_cons_self) x hx
      · omega
    · exact h3 r (List.mem_cons_of_mem _ (List.mem_cons_of_mem _ hr)) x hx
end

/-- A disk of the program. -/
def dkP (d : Nat) (D : Dk) (F : Nat → Prop) : Part := ⟨fun w => DiskAt w d D F, F, fun h hk hG => h.keep hk hG, fun h => h.lt⟩
/-- A disk of the document. -/
def rfP (r : Nat) (D : Dk) (F : Nat → Prop) : Part := ⟨fun w => RefAt w r D F, F, fun h hk hG => h.keep hk hG, fun h => h.lt⟩
/-- The book. -/
def bkP (bk : Nat) (qb qi : List (Value × List Int)) (F : Nat → Prop) : Part := ⟨fun w => BookAt w bk qb qi F, F, fun h hk hG => h.keep hk hG, fun h => h.lt⟩
/-- A list of bytes, a list of numbers. -/
def byP (v : Value) (l : List Int) : Part := ⟨fun w => OwnB w 0 v l, fun x => v.ownBlock = some x, fun h hk hG => ownsRow_keep h hk hG, fun h x hx => (World.ownsRow.lt h x hx).2⟩
def inP (v : Value) (l : List Int) : Part := ⟨fun w => OwnI w 0 v l, fun x => v.ownBlock = some x, fun h hk hG => ownsRow_keep h hk hG, fun h x hx => (World.ownsRow.lt h x hx).2⟩
/-- A list that is lent. -/
def lnP (s : Value) (l : List Int) (g : Nat) : Part := ⟨fun w => LentAt w s l g, (· = g), fun h hk hG => h.keep hk (hG g rfl), fun h x hx => by
  obtain ⟨cap, cur, _, h2, _⟩ := h
  have : x = g := hx
  subst this
  exact lt_of_heap h2⟩
def lbP (s : Value) (l : List Bool) (g : Nat) : Part := ⟨fun w => LentBAt w s l g, (· = g), fun h hk hG => h.keep hk (hG g rfl), fun h x hx => by
  obtain ⟨cap, cur, _, h2, _⟩ := h
  have : x = g := hx
  subst this
  exact lt_of_heap h2⟩
/-- A row of cells. -/
def ceP (g : Nat) (cs : Array Value) (e : TypeId) : Part := ⟨fun w => w.heap[g]? = some (.cells cs e (0, 0)), (· = g), fun h hk hG => hk.at h (hG g rfl), fun h x hx => by
  have : x = g := hx
  subst this
  exact lt_of_heap h⟩
theorem All.cells {W w : World} {ps : List Part} (h : All W ps w) (cs : Array Value) (e : TypeId) : All W (ceP w.heap.size cs e :: ps) (w.alloc (.cells cs e)) :=
  h.new (Keep.alloc _ _ _) (heap_alloc_new w _) fun x hx => by have : x = w.heap.size := hx; omega
theorem All.ownB {W w w' : World} {ps : List Part} (h : All W ps w) {v : Value} {l : List Int} (hf : FreshB w l v w') : All W (byP v l :: ps) w' :=
  h.new hf.2 (p' := byP v l) (by
    obtain ⟨k1, k2⟩ := hf.1
    refine ⟨k1, ?_⟩
    rcases k2 with k2 | ⟨g, cap, cur, hv, hg, r⟩
    · exact .inl k2
    · exact .inr ⟨g, cap, cur, hv, Nat.zero_le _, r⟩) fun x hx => (World.ownsRow.lt hf.1 x hx).1
theorem All.ownI {W w w' : World} {ps : List Part} (h : All W ps w) {v : Value} {l : List Int} (hf : OwnI w' w.heap.size v l ∧ Keep NoF w w') : All W (inP v l :: ps) w' :=
  h.new hf.2 (p' := inP v l) (by
    obtain ⟨k1, k2⟩ := hf.1
    refine ⟨k1, ?_⟩
    rcases k2 with k2 | ⟨g, cap, cur, hv, hg, r⟩
    · exact .inl k2
    · exact .inr ⟨g, cap, cur, hv, Nat.zero_le _, r⟩) fun x hx => (World.ownsRow.lt hf.1 x hx).1

theorem OwnI.ints {w : World} {base : Nat} {v : Value} {l : List Int} (h : OwnI w base v l) : IntsAt w v l := by
  rcases h.2 with ⟨rfl, h0⟩ | ⟨g, cap, cur, rfl, _, hh, hc, hm, hs, ht⟩
  · have : l = [] := List.eq_nil_of_length_eq_zero h0
    subst this
    exact ⟨none, 0, rfl, by simp [maxLen], fun h => absurd rfl h⟩
  · refine ⟨_, cap, rfl, by omega, fun _ => ⟨g, 0, rfl, range_at hh 0 _ ?_⟩⟩
    rw [List.drop_zero]
    simpa [Go.Proofs.Ytghnbbpoaeheaaa.ints] using ht
/-! ## known: a disk of the call's own -/
def Kn (W : World) (d : Nat) (D : Dk) (L : List Part) (w : World) : Prop := ∃ F, All W (dkP d D F :: L) w
section
variable {W w : World} {d : Nat} {D : Dk} {L : List Part}
theorem Kn.bytes (h : Kn W d D L w) {v : Value} {l : List Int} (hv : byP v l ∈ L) : BytesAt w v l := by
  obtain ⟨F, h⟩ := h
  exact OwnB.bytes (h.holds _ (List.mem_cons_of_mem _ hv))
theorem Kn.read (h : Kn W d D L w) (at_ : Int) : Calls Try.prog 36 #[.pointer (some ⟨d, 0, none⟩), .int .i64 at_] w (Gives fun v w' => ∃ s, v = .tuple #[s, .int .u16 (D.code at_)] ∧ Kn W d D (byP s (D.read at_) :: L) w') := by
  obtain ⟨F, h⟩ := h
  refine Gives.imp (read_any h.head at_) fun v w' ⟨s, h1, h2⟩ => ⟨s, h1, F, (h.ownB h2).swap⟩
theorem Kn.write (h : Kn W d D L w) (at_ : Int) {v : Value} {xs : List Int} (hv : BytesAt w v xs) (hcl : D.cache.length ≤ 1000000) : Calls Try.prog 37 #[.pointer (some ⟨d, 0, none⟩), .int .i64 at_, v] w (Gives fun r w' => r = .int .u16 (D.wcode at_ xs.length) ∧ Kn W d (D.write at_ xs) L w') := by
  obtain ⟨F, h⟩ := h
  refine Gives.imp (write_any h.head at_ v xs hv hcl) fun r w' ⟨h1, F', h2, h3, h4⟩ => ⟨h1, F', h.step h3 h2 h4⟩
theorem Kn.pending (h : Kn W d D L w) (hcl : D.cache.length ≤ 1000000) : Calls Try.prog 52 #[.pointer (some ⟨d, 0, none⟩)] w (Gives fun v w' => Kn W d D (inP v D.pending :: L) w') := by
  obtain ⟨F, h⟩ := h
  refine Gives.imp (pending_any h.head hcl) fun v w' h2 => ⟨F, (h.ownI h2).swap⟩
theorem Kn.sector (h : Kn W d D L w) (c : Int) : Calls Try.prog 51 #[.int .u8 c] w (Gives fun v w' => Kn W d D (byP v (List.replicate 128 c) :: L) w') := by
  obtain ⟨F, h⟩ := h
  refine Gives.imp (sector_any c w) fun v w' h2 => ⟨F, (h.ownB h2).swap⟩
theorem Kn.same (h : Kn W d D L w) {v1 v2 : Value} {l1 l2 : List Int} (h1 : byP v1 l1 ∈ L) (h2 : byP v2 l2 ∈ L) : Calls Try.prog 19 #[v1, v2] w (Gives fun v w' => v = .bool (decide (l1 = l2)) ∧ Kn W d D L w') := by
  refine Gives.imp (same_any (h.bytes h1) (h.bytes h2)) fun v w' ⟨h3, h4⟩ => ⟨h3, ?_⟩
  obtain ⟨F, h⟩ := h
  exact ⟨F, h.quiet h4⟩
theorem Kn.crash3 (h : Kn W d D L w) (hcl : D.cache.length ≤ 1000000) : Calls Try.prog 39 #[.pointer (some ⟨d, 0, none⟩), .slice (some ⟨w.heap.size, 0, none⟩) 3 3] (w.alloc (.cells #[.bool true, .bool false, .bool true] 4)) (Gives fun v w' => v = .tuple #[] ∧ Kn W d (D.crash [true, false, true]) L w') := by
  obtain ⟨F, h⟩ := h
  have hlt := h.head.lt
  have h' := h.quiet (Keep.alloc (F := NoF) w (.cells #[.bool true, .bool false, .bool true] 4))
  have hb : BoolsAt (w.alloc (.cells #[.bool true, .bool false, .bool true] 4)) (.slice (some ⟨w.heap.size, 0, none⟩) 3 3) [true, false, true] :=
    ⟨_, _, rfl, by simp [maxLen], fun _ => ⟨w.heap.size, 0, rfl, range_at (heap_alloc_new w _) 0 _ rfl⟩⟩
  refine Gives.imp (crash_any h'.head _ _ hb (fun a n c e _ hF => ?_) hcl) fun v w' ⟨h1, F', h2, h3, h4⟩ => ⟨h1, F', h'.step h3 h2 h4⟩
  simp only [Value.slice.injEq, Option.some.injEq] at e
  obtain ⟨rfl, -⟩ := e
  have := hlt _ hF
  simp at this
theorem Kn.ints3 (h : Kn W d D L w) {v1 : Value} {l1 : List Int} (h1 : inP v1 l1 ∈ L) (x y z : Int) : Calls Try.prog 50 #[v1, .slice (some ⟨w.heap.size, 0, none⟩) 3 3] (w.alloc (.cells #[.int .i64 x, .int .i64 y, .int .i64 z] 3)) (Gives fun v w' => v = .bool (decide (l1 = [x, y, z])) ∧ Kn W d D L w') := by
  obtain ⟨F, h⟩ := h
  have h' := h.quiet (Keep.alloc (F := NoF) w (.cells #[.int .i64 x, .int .i64 y, .int .i64 z] 3))
  have hb : IntsAt (w.alloc (.cells #[.int .i64 x, .int .i64 y, .int .i64 z] 3)) (.slice (some ⟨w.heap.size, 0, none⟩) 3 3) [x, y, z] :=
    ⟨_, _, rfl, by simp [maxLen], fun _ => ⟨w.heap.size, 0, rfl, range_at (heap_alloc_new w _) 0 _ rfl⟩⟩
  have ha : IntsAt (w.alloc (.cells #[.int .i64 x, .int .i64 y, .int .i64 z] 3)) v1 l1 := OwnI.ints (h'.holds _ (List.mem_cons_of_mem _ h1))
  refine Gives.imp (sameInts_any ha hb) fun v w' ⟨h3, h4⟩ => ⟨h3, F, h'.quiet h4⟩
end
end Go.Proofs.Ytghnbbpoaeheaaa
