/- The document's disk, walked: Flush, Crash. -/
import Derived.Test.YtghnbbpoaeheaaaDL16
namespace Go.Proofs.Ytghnbbpoaeheaaa
open Go.RowKit

section
variable {w : World} {r : Nat} {D : Dk} {F : Nat → Prop} {lv cv : Value} {q : List (Nat × List Int × Value)}
theorem RefPost.trans {D2 : Dk} {w1 w2 : World} {F1 : Nat → Prop} (a2 : Keep F w w1) (a3 : ∀ x, F1 x → F x ∨ w.heap.size ≤ x) (h2 : RefPost w1 r D2 F1 w2) : RefPost w r D2 F w2 := by
  obtain ⟨F2, b1, b2, b3⟩ := h2
  refine ⟨F2, b1, a2.trans b2 (fun x hx hf => ?_), fun x hx => ?_⟩
  · rcases a3 x hf with h | h
    · exact h
    · omega
  · rcases b3 x hx with h | h
    · exact a3 x h
    · exact .inr (Nat.le_trans a2.size h)
theorem rclear_post (h : RefAt w r D F) : (∃ cv, w.cell? ⟨r, 1, none⟩ = some cv ∧ w.frozen? ⟨r, 1, none⟩ = false ∧ r < w.heap.size) ∧ RefPost w r { D with cache := [] } F (w.setCell ⟨r, 1, none⟩ (.slice none 0 0)) := by
  obtain ⟨lv, cv, q, h⟩ := h.lies
  have hk : Keep (· = r) w (w.setCell ⟨r, 1, none⟩ (.slice none 0 0)) := Keep.setCell (F := (· = r)) w ⟨r, 1, none⟩ (.slice none 0 0) rfl
  have h2 := heap_setCell_same w r 1 _ _ (.slice none 0 0) h.hr
  have hlr : ∀ x, lv.ownBlock = some x → x ≠ r := fun x hx e => by
    obtain ⟨cs, hcs⟩ := own_elem h.las hx
    exact ne_of_elem hcs h.hr (by decide) e
  refine ⟨⟨cv, cell_at h.hr 1 rfl, free_at h.hr 1, lt_of_heap h.hr⟩, fun x => x = r ∨ lv.ownBlock = some x, ⟨lv, .slice none 0 0, [], by simpa using h2, ownsRow_keep h.las hk hlr, World.ownsRow_nil _ _ _ _, rfl, (fun e he => (by cases he)), (fun x => (by simp [Value.ownBlock])), ⟨h.ok.pos, h.ok.le, h.ok.sec, (fun e he => (by cases he)), fun _ => rfl⟩⟩, hk.mono fun x _ e => (show x = r from e) ▸ (h.hF r).2 (.inl rfl), fun x hx => .inl ?_⟩
  rcases hx with rfl | hx
  · exact (h.hF _).2 (.inl rfl)
  · exact (h.hF x).2 (.inr (.inl hx))

/-- How far the settling of the document's disk has come. -/
def SettR (w : World) (r : Nat) (D : Dk) (F : Nat → Prop) (keep : Nat → Bool) (i : Nat) (wr : World) : Prop := RefPost w r { D with las := settled keep 0 (D.cache.take i) D.las } F wr
/-- One round of it. -/
theorem settr_round {keep : Nat → Bool} {i : Nat} {wr : World} (hi : i < D.cache.length) (h : SettR w r D F keep i wr) :
    ∃ bc capc k dv, (wr.cell? ⟨r, 1, none⟩ = some (.slice (some ⟨bc, 0, none⟩) D.cache.length capc) ∧ wr.cell? ⟨bc, i * 2, none⟩ = some (.int .i64 (k : Nat)) ∧ ∃ x n c, dv = .slice x n c ∧ wr.cell? ⟨bc, i * 2 + 1, none⟩ = some dv) ∧
      (keep i = true → Calls Try.prog 99 #[.pointer (some ⟨r, 0, none⟩), .agg #[.int .i64 k, dv]] wr (Gives fun v w' => v = .tuple #[] ∧ SettR w r D F keep (i + 1) w')) ∧
      (keep i = false → SettR w r D F keep (i + 1) wr) := by
  obtain ⟨e, he⟩ : ∃ e, D.cache[i]? = some e := ⟨_, List.getElem?_eq_getElem hi⟩
  have hsn : D.cache.take (i + 1) = D.cache.take i ++ [e] := by rw [List.take_add_one, he]; rfl
  have hst : settled keep 0 (D.cache.take (i + 1)) D.las = if keep i then (settled keep 0 (D.cache.take i) D.las).set e.1 e.2 else settled keep 0 (D.cache.take i) D.las := by
    rw [hsn, settled_snoc, List.length_take, Nat.min_eq_left (Nat.le_of_lt hi), Nat.zero_add]
  obtain ⟨F1, h1, hk1, hF1⟩ := id h
  have h1' := h1
  obtain ⟨lv, cv, q, hl⟩ := h1'.lies
  have hql : q.length = D.cache.length := hl.len
  obtain ⟨x, hx⟩ : ∃ x, q[i]? = some x := ⟨_, List.getElem?_eq_getElem (by omega)⟩
  have hce : D.cache[i]? = some (x.1, x.2.1) := by
    have : q.map (fun e => (e.1, e.2.1)) = D.cache := hl.map
    rw [← this, List.getElem?_map, hx]; rfl
  obtain rfl : (x.1, x.2.1) = e := by rw [hce] at he; exact Option.some.inj he
  obtain ⟨bc, capc, hv, e1, e2⟩ := hl.entry hx
  have hdat := hl.dat x (List.mem_of_getElem? hx)
  obtain ⟨hk, hlen⟩ := h1.ok.ent (x.1, x.2.1) (List.mem_of_getElem? hce)
  refine ⟨bc, capc, x.1, x.2.2, ⟨?_, e1, ?_⟩, fun hkp => ?_, fun hkp => ?_⟩
  · have := cell_at hl.hr 1 (v := cv) rfl
    rw [this, hv, hql]
  · obtain ⟨a, c, hv2⟩ := own_form hdat
    exact ⟨a, _, c, hv2, e2⟩
  · refine Gives.imp (rlasts_any h1 hk hlen hdat.bytes) fun v w' hg => ⟨hg.1, ?_⟩
    unfold SettR
    rw [hst, if_pos hkp]
    exact RefPost.trans hk1 hF1 hg.2
  · unfold SettR
    rw [hst, if_neg (by rw [hkp]; decide)]
    exact h
/-- The end of it. -/
theorem settr_end {keep : Nat → Bool} {wr : World} (h : SettR w r D F keep D.cache.length wr) : (∃ cv, wr.cell? ⟨r, 1, none⟩ = some cv ∧ wr.frozen? ⟨r, 1, none⟩ = false ∧ r < wr.heap.size) ∧ RefPost w r (D.settle keep) F (wr.setCell ⟨r, 1, none⟩ (.slice none 0 0)) := by
  obtain ⟨F1, h1, hk1, hF1⟩ := h
  obtain ⟨c1, c2⟩ := rclear_post h1
  refine ⟨c1, ?_⟩
  have := RefPost.trans hk1 hF1 c2
  rw [List.take_length] at this
  exact this
theorem settr_head {keep : Nat → Bool} {i : Nat} {wr : World} (h : SettR w r D F keep i wr) : ∃ x c, wr.cell? ⟨r, 1, none⟩ = some (.slice x D.cache.length c) := by
  obtain ⟨F1, h1, hk1, hF1⟩ := h
  obtain ⟨lv, cv, q, hl⟩ := h1.lies
  obtain ⟨x, c, hv⟩ := own_form hl.row
  have hql : q.length = D.cache.length := hl.len
  exact ⟨x, c, by rw [← hql, ← hv]; exact cell_at hl.hr 1 rfl⟩

set_option maxRecDepth 100000 in
set_option maxHeartbeats 1000000 in
theorem rflush_any (h : RefAt w r D F) (hcl : D.cache.length ≤ 1000000) : Calls Try.prog 55 #[.pointer (some ⟨r, 0, none⟩)] w (Gives fun v w' => v = .int .i64 D.fcode ∧ RefPost w r D.flush F w') := by
  unfold Dk.fcode Dk.flush
  cases hf : D.failed with
  | true =>
    simp only [if_true]
    have HP := Lib.hid (RefPost.same h)
    obtain ⟨lv, cv, q, hl⟩ := h.lies
    have c2 := cell_at hl.hr 2 rfl
    rw [hf] at c2
    clear h hl
    go_enter Try.func55, Try.ntmps55
    go_wp2
    go_ret
    exact ⟨_, rfl, rfl, HP.out⟩
  | false =>
    simp only [Bool.false_eq_true, if_false]
    have H0 : Hid (SettR w r D F (fun _ => true) 0 w) := RefPost.same h
    obtain ⟨lv, cv, q, hl⟩ := h.lies
    have c2 := cell_at hl.hr 2 rfl
    rw [hf] at c2
    have HRD : Hid (∀ i wr, i < D.cache.length → SettR w r D F (fun _ => true) i wr → ∃ bc capc k x n c, (wr.cell? ⟨r, 1, none⟩ = some (.slice (some ⟨bc, 0, none⟩) D.cache.length capc) ∧ wr.cell? ⟨bc, i * 2, none⟩ = some (.int .i64 (k : Nat)) ∧ wr.cell? ⟨bc, i * 2 + 1, none⟩ = some (.slice x n c)) ∧
      Calls Try.prog 99 #[.pointer (some ⟨r, 0, none⟩), .agg #[.int .i64 k, .slice x n c]] wr (Gives fun v w' => v = .tuple #[] ∧ SettR w r D F (fun _ => true) (i + 1) w')) := fun i wr hi hs => by
      obtain ⟨bc, capc, k, dv, ⟨e1, e2, x, n, c, rfl, e3⟩, e4, _⟩ := settr_round hi hs
      exact ⟨bc, capc, k, x, n, c, ⟨e1, e2, e3⟩, e4 rfl⟩
    have HEN : Hid (∀ wr, SettR w r D F (fun _ => true) D.cache.length wr → (∃ x c, wr.cell? ⟨r, 1, none⟩ = some (.slice x D.cache.length c) ∧ wr.frozen? ⟨r, 1, none⟩ = false ∧ r < wr.heap.size) ∧ RefPost w r (D.settle fun _ => true) F (wr.setCell ⟨r, 1, none⟩ (.slice none 0 0))) := fun wr hs => by
      obtain ⟨⟨cv, _, f1, f2⟩, f3⟩ := settr_end hs
      obtain ⟨x, c, hx⟩ := settr_head hs
      exact ⟨⟨x, c, hx, f1, f2⟩, f3⟩
    clear h hl
    generalize D.settle (fun _ => true) = D2 at *
    generalize D.cache.length = n at *
    go_enter Try.func55, Try.ntmps55
    go_wp2
    go_loopw [3] (fun t wr => ∃ i : Nat, i ≤ n ∧ t = .int .i64 i ∧ SettR w r D F (fun _ => true) i wr) (fun t _ => n - (intOf t).toNat)
    case atStart => exact ⟨0, Nat.zero_le _, rfl, H0.out⟩
    case round =>
      obtain ⟨i, hi, rfl, hs⟩ := hrel
      by_cases hlt : i < n
      · obtain ⟨bc, capc, k, x, m, c, ⟨e1, e2, e3⟩, e4⟩ := HRD.out i wr hlt hs
        have HC := Lib.hid e4
        clear e4 hs
        go_wp2_with (go_at_call 99; go_must (refine HC.out.mono ?_); rintro e w' ⟨v, rfl, rfl, hv⟩; have HV := Lib.hid hv; clear hv)
        exact ⟨⟨i + 1, by omega, by go_num, HV.out⟩, by simp [intOf]; omega⟩
      · obtain rfl : i = n := by omega
        obtain ⟨⟨x, c, e1, f1, f2⟩, f3⟩ := HEN.out wr hs
        have HP := Lib.hid f3
        clear f3 hs
        go_wp2
        go_ret
        exact ⟨_, rfl, rfl, HP.out⟩

set_option maxRecDepth 100000 in
set_option maxHeartbeats 1000000 in
theorem rcrash_any (h : RefAt w r D F) {kv : Value} {l : List Bool} (hv : BoolsAt w kv l) (hvF : l ≠ [] → ∀ a n c, kv = .slice (some a) n c → ¬ F a.block) (hcl : D.cache.length ≤ 1000000) :
    Calls Try.prog 57 #[.pointer (some ⟨r, 0, none⟩), kv] w (Gives fun v w' => v = .tuple #[] ∧ RefPost w r (D.crash l) F w') := by
  unfold Dk.crash
  have H0 : Hid (SettR w r D F (keepOf l) 0 w) := RefPost.same h
  have HRD : Hid (∀ i wr, i < D.cache.length → SettR w r D F (keepOf l) i wr → ∃ bc capc k x n c, (wr.cell? ⟨r, 1, none⟩ = some (.slice (some ⟨bc, 0, none⟩) D.cache.length capc) ∧ wr.cell? ⟨bc, i * 2, none⟩ = some (.int .i64 (k : Nat)) ∧ wr.cell? ⟨bc, i * 2 + 1, none⟩ = some (.slice x n c)) ∧
      (keepOf l i = true → Calls Try.prog 99 #[.pointer (some ⟨r, 0, none⟩), .agg #[.int .i64 k, .slice x n c]] wr (Gives fun v w' => v = .tuple #[] ∧ SettR w r D F (keepOf l) (i + 1) w')) ∧ (keepOf l i = false → SettR w r D F (keepOf l) (i + 1) wr)) := fun i wr hi hs => by
    obtain ⟨bc, capc, k, dv, ⟨e1, e2, x, n, c, rfl, e3⟩, e4, e5⟩ := settr_round hi hs
    exact ⟨bc, capc, k, x, n, c, ⟨e1, e2, e3⟩, e4, e5⟩
  have HEN : Hid (∀ wr, SettR w r D F (keepOf l) D.cache.length wr → (∃ x c, wr.cell? ⟨r, 1, none⟩ = some (.slice x D.cache.length c) ∧ wr.frozen? ⟨r, 1, none⟩ = false ∧ r < wr.heap.size) ∧ RefPost w r (D.settle (keepOf l)) F (wr.setCell ⟨r, 1, none⟩ (.slice none 0 0))) := fun wr hs => by
    obtain ⟨⟨cv, _, f1, f2⟩, f3⟩ := settr_end hs
    obtain ⟨x, c, hx⟩ := settr_head hs
    exact ⟨⟨x, c, hx, f1, f2⟩, f3⟩
  obtain ⟨a, kcap, rfl, hv1, hv3⟩ := hv
  have HKC : Hid (∀ i wr, i < l.length → SettR w r D F (keepOf l) i wr → ∃ gb go, a = some ⟨gb, go, none⟩ ∧ wr.cell? ⟨gb, go + i, none⟩ = some (.bool (keepOf l i))) := fun i wr hi hs => by
    have hne : l ≠ [] := by rintro rfl; simp at hi
    obtain ⟨gb, go, rfl, hr⟩ := hv3 hne
    obtain ⟨F1, _, hk1, _⟩ := hs
    refine ⟨gb, go, rfl, hk1.cell (hr i _ ?_) (hvF hne ⟨gb, go, none⟩ _ _ rfl)⟩
    simp [keepOf, hi]
  have HKO : Hid (∀ i, ¬ i < l.length → keepOf l i = false) := fun i hi => by simp [keepOf, List.getElem?_eq_none (show l.length ≤ i by omega)]
  generalize D.settle (keepOf l) = D2 at *
  generalize D.cache.length = n at *
  generalize keepOf l = kf at *
  have hll : (l.length : Int) ≤ 9223372036854775807 := by unfold maxLen at hv1; omega
  generalize l.length = ln at *
  clear h hv1 hv3 hvF
  go_enter Try.func57, Try.ntmps57
  go_wp2
  go_loopw [4] (fun t wr => ∃ i : Nat, i ≤ n ∧ t = .int .i64 i ∧ SettR w r D F kf i wr) (fun t _ => n - (intOf t).toNat)
  case atStart => exact ⟨0, Nat.zero_le _, rfl, H0.out⟩
  case round =>
    obtain ⟨i, hi, rfl, hs⟩ := hrel
    by_cases hlt : i < n
    · obtain ⟨bc, capc, k, x, m, c, ⟨e1, e2, e3⟩, e4, e5⟩ := HRD.out i wr hlt hs
      by_cases hil : i < ln
      · obtain ⟨gb, go, rfl, ek⟩ := HKC.out i wr hil hs
        cases hkf : kf i with
        | true =>
          have HC := Lib.hid (e4 hkf)
          rw [hkf] at ek
          clear e4 e5 hs hkf
          go_wp2_with (go_at_call 99; go_must (refine HC.out.mono ?_); rintro e w' ⟨v, rfl, rfl, hv⟩; have HV := Lib.hid hv; clear hv)
          exact ⟨⟨i + 1, by omega, by go_num, HV.out⟩, by simp [intOf]; omega⟩
        | false =>
          have HV := Lib.hid (e5 hkf)
          rw [hkf] at ek
          clear e4 e5 hs hkf
          go_wp2
          exact ⟨⟨i + 1, by omega, by go_num, HV.out⟩, by simp [intOf]; omega⟩
      · have HV := Lib.hid (e5 (HKO.out i hil))
        clear e4 e5 hs
        go_wp2
        exact ⟨⟨i + 1, by omega, by go_num, HV.out⟩, by simp [intOf]; omega⟩
    · obtain rfl : i = n := by omega
      obtain ⟨⟨x, c, e1, f1, f2⟩, f3⟩ := HEN.out wr hs
      have HP := Lib.hid f3
      clear f3 hs
      go_wp2
      go_end0
      exact ⟨_, rfl, rfl, HP.out⟩
end
end Go.Proofs.Ytghnbbpoaeheaaa

/- The book's lists that hold nothing: their functions answer true. -/
namespace Go.Proofs.Ytghnbbpoaeheaaa
open Go.RowKit

set_option maxRecDepth 100000 in
set_option maxHeartbeats 1000000 in
theorem own_none_69 (w : World) : Calls Try.prog 69 #[.slice none 0 0] w fun e w' => e = .returned (.bool true) ∧ w = w' := by
  go_enter Try.func69, Try.ntmps69
  go_wp2
  repeat
    refine wp_loop_rounds 1 ?_
    rw [rounds_succ]
    go_wp2
  go_ret
  exact ⟨rfl, rfl⟩
set_option maxRecDepth 100000 in
set_option maxHeartbeats 1000000 in
theorem own_none_71 (w : World) : Calls Try.prog 71 #[.slice none 0 0] w fun e w' => e = .returned (.bool true) ∧ w = w' := by
  go_enter Try.func71, Try.ntmps71
  go_wp2
  repeat
    refine wp_loop_rounds 1 ?_
    rw [rounds_succ]
    go_wp2
  go_ret
  exact ⟨rfl, rfl⟩
set_option maxRecDepth 100000 in
set_option maxHeartbeats 1000000 in
theorem own_none_72 (w : World) : Calls Try.prog 72 #[.slice none 0 0] w fun e w' => e = .returned (.bool true) ∧ w = w' := by
  go_enter Try.func72, Try.ntmps72
  go_wp2
  repeat
    refine wp_loop_rounds 1 ?_
    rw [rounds_succ]
    go_wp2
  go_ret
  exact ⟨rfl, rfl⟩
set_option maxRecDepth 100000 in
set_option maxHeartbeats 1000000 in
theorem own_none_73 (w : World) : Calls Try.prog 73 #[.slice none 0 0] w fun e w' => e = .returned (.bool true) ∧ w = w' := by
  go_enter Try.func73, Try.ntmps73
  go_wp2
  repeat
    refine wp_loop_rounds 1 ?_
    rw [rounds_succ]
    go_wp2
  go_ret
  exact ⟨rfl, rfl⟩
set_option maxRecDepth 100000 in
set_option maxHeartbeats 1000000 in
theorem own_none_74 (w : World) : Calls Try.prog 74 #[.slice none 0 0] w fun e w' => e = .returned (.bool true) ∧ w = w' := by
  go_enter Try.func74, Try.ntmps74
  go_wp2
  repeat
    refine wp_loop_rounds 1 ?_
    rw [rounds_succ]
    go_wp2
  go_ret
  exact ⟨rfl, rfl⟩
theorem i57 : (Try.prog.info? 57).map (fun i => (i.zero, i.size, i.bytes)) = some (some (.slice none 0 0), 1, 24) := by kernel_rfl
theorem wpList_make47z {ops : Array Oper} {rest : List Oper} {o : Oper} {a : Act} {Q : Exit → Act → World → Prop} {w : World} (hg : o.guard = none) (l c : Operand) (hop : o.op = Op.makeSlice 47 l c)
    (hl : a.eval l = .int .i64 0) (hc : a.eval c = .int .i64 0)
    (hK : ∀ w', w.grownBy w' none → wpList Try.prog ops Q rest (a.put o.dst (.slice (some ⟨w.heap.size, 0, none⟩) 0 0)) w') : wpList Try.prog ops Q (o :: rest) a w := by
  obtain ⟨i, hi, he⟩ := info_of i57
  simp only [Prod.mk.injEq] at he
  obtain ⟨he1, he2, he3⟩ := he
  exact wpList_make_full w hg l c 47 hop w.heap.size 57 i _ 1 Try.underlying47 hi he1 he2 .i64 .i64 0 0 0 hl hc rfl rfl (by omega) (by unfold maxLen; omega) (Nat.le_refl _) fun w' _ h2 => hK w' h2
set_option maxRecDepth 100000 in
set_option maxHeartbeats 1000000 in
theorem own_none_75 (w : World) : Calls Try.prog 75 #[.slice none 0 0] w (Gives fun v w' => v = .bool true ∧ Keep NoF w w') := by
  go_enter Try.func75, Try.ntmps75
  go_wp2_with (at_make; go_must (refine wpList_make47z rfl _ _ rfl rfl rfl ?_); intro w1 hg; have HG := Lib.hid hg; clear hg)
  refine wp_loop_rounds 1 ?_
  rw [rounds_succ]
  go_wp2
  go_ret
  exact ⟨_, rfl, rfl, Keep.grown HG.out (fun x hx => by cases hx)⟩
set_option maxRecDepth 100000 in
set_option maxHeartbeats 1000000 in
theorem own_none_76 (w : World) : Calls Try.prog 76 #[.slice none 0 0] w fun e w' => e = .returned (.bool true) ∧ w = w' := by
  go_enter Try.func76, Try.ntmps76
  go_wp2
  repeat
    refine wp_loop_rounds 1 ?_
    rw [rounds_succ]
    go_wp2
  go_ret
  exact ⟨rfl, rfl⟩
set_option maxRecDepth 100000 in
set_option maxHeartbeats 1000000 in
theorem own_none_77 (w : World) : Calls Try.prog 77 #[.slice none 0 0] w fun e w' => e = .returned (.bool true) ∧ w = w' := by
  go_enter Try.func77, Try.ntmps77
  go_wp2
  repeat
    refine wp_loop_rounds 1 ?_
    rw [rounds_succ]
    go_wp2
  go_ret
  exact ⟨rfl, rfl⟩
set_option maxRecDepth 100000 in
set_option maxHeartbeats 1000000 in
theorem own_none_78 (w : World) : Calls Try.prog 78 #[.slice none 0 0] w fun e w' => e = .returned (.bool true) ∧ w = w' := by
  go_enter Try.func78, Try.ntmps78
  go_wp2
  repeat
    refine wp_loop_rounds 1 ?_
    rw [rounds_succ]
    go_wp2
  go_ret
  exact ⟨rfl, rfl⟩
set_option maxRecDepth 100000 in
set_option maxHeartbeats 1000000 in
theorem own_none_79 (w : World) : Calls Try.prog 79 #[.slice none 0 0] w fun e w' => e = .returned (.bool true) ∧ w = w' := by
  go_enter Try.func79, Try.ntmps79
  go_wp2
  repeat
    refine wp_loop_rounds 1 ?_
    rw [rounds_succ]
    go_wp2
  go_ret
  exact ⟨rfl, rfl⟩
end Go.Proofs.Ytghnbbpoaeheaaa

/- The book of lists that came out (spindleref00.Book): how it lies in memory; Bytes and Ints, walked. -/
namespace Go.Proofs.Ytghnbbpoaeheaaa
open Go.RowKit

theorem i22 : (Try.prog.info? 22).map (fun i => (i.zero, i.size, i.bytes)) = some (some (.slice none 0 0), 1, 24) := by kernel_rfl
theorem i76 : (Try.prog.info? 76).map (fun i => (i.zero, i.size, i.bytes)) = some (some (.slice none 0 0), 1, 24) := by kernel_rfl
/-- No two of the lists lie in one row. -/
def Parted (q : List (Value × List Int)) : Prop := q.Pairwise fun e f => ∀ x, e.1.ownBlock = some x → ¬ f.1.ownBlock = some x
structure BookLies (w : World) (bk : Nat) (qb qi : List (Value × List Int)) (F : Nat → Prop) (bv iv : Value) : Prop where
  hb : w.heap[bk]? = some (.cells #[bv, .slice none 0 0, iv, .slice none 0 0, .slice none 0 0, .slice none 0 0, .slice none 0 0, .slice none 0 0, .slice none 0 0, .slice none 0 0, .slice none 0 0, .slice none 0 0] 53 (0, 0))
  rb : w.ownsRow 0 22 1 bv qb.length (qb.map (·.1))
  ri : w.ownsRow 0 76 1 iv qi.length (qi.map (·.1))
  db : ∀ e ∈ qb, OwnB w 0 e.1 e.2
  di : ∀ e ∈ qi, OwnI w 0 e.1 e.2
  pb : Parted qb
  pi : Parted qi
  hF : ∀ x, F x ↔ x = bk ∨ bv.ownBlock = some x ∨ iv.ownBlock = some x ∨ (∃ e ∈ qb, e.1.ownBlock = some x) ∨ ∃ e ∈ qi, e.1.ownBlock = some x
def BookAt (w : World) (bk : Nat) (qb qi : List (Value × List Int)) (F : Nat → Prop) : Prop := ∃ bv iv, BookLies w bk qb qi F bv iv
section
variable {w : World} {bk : Nat} {qb qi : List (Value × List Int)} {F : Nat → Prop} {bv iv : Value}
theorem BookLies.keep {w' : World} {G : Nat → Prop} (h : BookLies w bk qb qi F bv iv) (hk : Keep G w w') (hG : ∀ x, F x → ¬ G x) : BookLies w' bk qb qi F bv iv :=
  ⟨hk.at h.hb (hG _ ((h.hF _).2 (.inl rfl))), ownsRow_keep h.rb hk (fun x hx => hG x ((h.hF x).2 (.inr (.inl hx)))), ownsRow_keep h.ri hk (fun x hx => hG x ((h.hF x).2 (.inr (.inr (.inl hx))))),
    fun e he => ownsRow_keep (h.db e he) hk (fun x hx => hG x ((h.hF x).2 (.inr (.inr (.inr (.inl ⟨e, he, hx⟩)))))), fun e he => ownsRow_keep (h.di e he) hk (fun x hx => hG x ((h.hF x).2 (.inr (.inr (.inr (.inr ⟨e, he, hx⟩)))))), h.pb, h.pi, h.hF⟩
theorem BookAt.keep {w' : World} {G : Nat → Prop} (h : BookAt w bk qb qi F) (hk : Keep G w w') (hG : ∀ x, F x → ¬ G x) : BookAt w' bk qb qi F := by
  obtain ⟨bv, iv, h⟩ := h; exact ⟨bv, iv, h.keep hk hG⟩
theorem BookAt.lt (h : BookAt w bk qb qi F) : ∀ x, F x → x < w.heap.size := by
  obtain ⟨bv, iv, h⟩ := h
  intro x hx
  rcases (h.hF x).1 hx with rfl | hx | hx | ⟨e, he, hx⟩ | ⟨e, he, hx⟩
  · exact lt_of_heap h.hb
  · exact (h.rb.lt x hx).2
  · exact (h.ri.lt x hx).2
  · exact (World.ownsRow.lt (h.db e he) x hx).2
  · exact (World.ownsRow.lt (h.di e he) x hx).2
end

section
variable {ops : Array Oper} {rest : List Oper} {o : Oper} {a : Act} {w : World} {Q : Exit → Act → World → Prop}
theorem wpList_app40 (hgd : o.guard = none) (s x : Operand) (ho : o.op = .call { callee := .builtin .append, args := #[s, x], argTypes := #[40, 40] })
    (base : Nat) (v : Value) (n : Nat) (xs : List Value) (hs : a.eval s = v) (hown : w.ownsRow base 22 1 v n xs)
    (ad : Addr) (c : Nat) (news : List Value) (hx : a.eval x = .slice (some ad) 1 c) (hl : news.length = 1) (hnews : ∀ j u, news[j]? = some u → w.cell? (ad.add j) = some u) (h1 : ∀ u ∈ news, u.oneCell' = true)
    (hb : n ≤ 1073741824) (hbase : base ≤ w.heap.size)
    (h : ∀ v' w', w'.ownsRow base 22 1 v' (n + 1) (xs ++ news) → w.grownBy w' v.ownBlock → (v'.ownBlock = v.ownBlock ∨ v'.ownBlock = some w.heap.size) → wpList Try.prog ops Q rest (a.put o.dst v') w') : wpList Try.prog ops Q (o :: rest) a w := by
  obtain ⟨i, hi, he⟩ := info_of i22
  simp only [Prod.mk.injEq] at he
  exact wpList_append_own_at w hgd s x 40 ho base 22 i _ 1 24 Try.underlying40 hi he.1 he.2.1 he.2.2 rfl (by decide) v n xs hs hown ad 1 c news hx (by omega) hnews h1 (by unfold maxLen; omega) (by omega) hbase fun v' w' h2 h3 _ h5 => h v' w' h2 h3 h5
end

section
variable {ops : Array Oper} {rest : List Oper} {o : Oper} {a : Act} {w : World} {Q : Exit → Act → World → Prop}
theorem wpList_app42 (hgd : o.guard = none) (s x : Operand) (ho : o.op = .call { callee := .builtin .append, args := #[s, x], argTypes := #[42, 42] })
    (base : Nat) (v : Value) (n : Nat) (xs : List Value) (hs : a.eval s = v) (hown : w.ownsRow base 76 1 v n xs)
    (ad : Addr) (c : Nat) (news : List Value) (hx : a.eval x = .slice (some ad) 1 c) (hl : news.length = 1) (hnews : ∀ j u, news[j]? = some u → w.cell? (ad.add j) = some u) (h1 : ∀ u ∈ news, u.oneCell' = true)
    (hb : n ≤ 1073741824) (hbase : base ≤ w.heap.size)
    (h : ∀ v' w', w'.ownsRow base 76 1 v' (n + 1) (xs ++ news) → w.grownBy w' v.ownBlock → (v'.ownBlock = v.ownBlock ∨ v'.ownBlock = some w.heap.size) → wpList Try.prog ops Q rest (a.put o.dst v') w') : wpList Try.prog ops Q (o :: rest) a w := by
  obtain ⟨i, hi, he⟩ := info_of i76
  simp only [Prod.mk.injEq] at he
  exact wpList_append_own_at w hgd s x 42 ho base 76 i _ 1 24 Try.underlying42 hi he.1 he.2.1 he.2.2 rfl (by decide) v n xs hs hown ad 1 c news hx (by omega) hnews h1 (by unfold maxLen; omega) (by omega) hbase fun v' w' h2 h3 _ h5 => h v' w' h2 h3 h5
end

def BookPost (w : World) (bk : Nat) (qb qi : List (Value × List Int)) (F : Nat → Prop) (lv : Value) (w' : World) : Prop := ∃ F', BookAt w' bk qb qi F' ∧ Keep F w w' ∧ ∀ x, F' x → F x ∨ lv.ownBlock = some x ∨ w.heap.size ≤ x
theorem parted_snoc {q : List (Value × List Int)} {e : Value × List Int} (h : Parted q) (he : ∀ f ∈ q, ∀ x, f.1.ownBlock = some x → ¬ e.1.ownBlock = some x) : Parted (q ++ [e]) := by
  unfold Parted
  rw [List.pairwise_append]
  exact ⟨h, List.pairwise_singleton _ _, fun a ha b hb => by
    obtain rfl : b = e := by simpa using hb
    exact he a ha⟩

section
variable {w : World} {bk : Nat} {qb qi : List (Value × List Int)} {F : Nat → Prop} {bv iv : Value}
theorem book_bytes_post (h : BookLies w bk qb qi F bv iv) {lv : Value} {l : List Int} (ho : OwnB w 0 lv l) (hd : ∀ x, lv.ownBlock = some x → ¬ F x) {w2 : World} {v' : Value} (ho2 : w2.ownsRow 0 22 1 v' (qb.length + 1) (qb.map (·.1) ++ [lv])) (hg : (w.alloc (.cells #[lv] 22)).grownBy w2 bv.ownBlock) (hat : v'.ownBlock = bv.ownBlock ∨ v'.ownBlock = some (w.alloc (.cells #[lv] 22)).heap.size) :
    (w2.cell? ⟨bk, 0, none⟩ = some bv ∧ w2.frozen? ⟨bk, 0, none⟩ = false ∧ bk < w2.heap.size) ∧ BookPost w bk (qb ++ [(lv, l)]) qi F lv (w2.setCell ⟨bk, 0, none⟩ v') := by
  have hk1 : Keep NoF w (w.alloc (.cells #[lv] 22)) := Keep.alloc _ _ _
  have h1 := h.keep hk1 (fun _ _ h => h)
  have hk2 : Keep (fun x => bv.ownBlock = some x) (w.alloc (.cells #[lv] 22)) w2 := Keep.grown hg fun x hx => hx
  have hr : ¬ bv.ownBlock = some bk := fun e => by
    obtain ⟨cs, hcs⟩ := own_elem h1.rb e
    exact ne_of_elem hcs h1.hb (by decide) rfl
  have hb2 := hk2.at h1.hb hr
  have hk3 : Keep (· = bk) w2 (w2.setCell ⟨bk, 0, none⟩ v') := Keep.setCell (F := (· = bk)) w2 ⟨bk, 0, none⟩ v' rfl
  have hh := heap_setCell_same w2 bk 0 _ _ v' hb2
  have keepE : ∀ {base el n : Nat} {v : Value} {xs : List Value}, el ≠ 22 → el ≠ 53 → (w.alloc (.cells #[lv] 22)).ownsRow base el 1 v n xs → (w2.setCell ⟨bk, 0, none⟩ v').ownsRow base el 1 v n xs := fun e1 e2 hw => by
    have a1 := ownsRow_keep hw hk2 (fun x hx e => by
      obtain ⟨cs, hcs⟩ := own_elem hw hx
      obtain ⟨cs2, hcs2⟩ := own_elem h1.rb e
      exact ne_of_elem hcs hcs2 e1 rfl)
    exact ownsRow_keep a1 hk3 (fun x hx e => by
      obtain ⟨cs, hcs⟩ := own_elem a1 hx
      exact ne_of_elem hcs hb2 e2 e)
  have ho1 : OwnB (w.alloc (.cells #[lv] 22)) 0 lv l := ownsRow_keep ho hk1 (fun _ _ h => h)
  have hnew : (w2.setCell ⟨bk, 0, none⟩ v').ownsRow 0 22 1 v' (qb.length + 1) (qb.map (·.1) ++ [lv]) := ownsRow_keep ho2 hk3 (fun x hx e => by
    obtain ⟨cs, hcs⟩ := own_elem ho2 hx
    exact ne_of_elem hcs hb2 (by decide) e)
  refine ⟨⟨cell_at hb2 0 rfl, free_at hb2 0, lt_of_heap hb2⟩, fun x => x = bk ∨ v'.ownBlock = some x ∨ iv.ownBlock = some x ∨ (∃ e ∈ qb ++ [(lv, l)], e.1.ownBlock = some x) ∨ ∃ e ∈ qi, e.1.ownBlock = some x,
    ⟨v', iv, ⟨by simpa using hh, by simpa using hnew, keepE (by decide) (by decide) h1.ri, fun e he => ?_, fun e he => keepE (by decide) (by decide) (h1.di e he), parted_snoc h.pb (fun f hf x hx e => hd x e ((h.hF x).2 (.inr (.inr (.inr (.inl ⟨f, hf, hx⟩)))))), h.pi, fun x => Iff.rfl⟩⟩, ?_, ?_⟩
  · rcases List.mem_append.1 he with he | he
    · exact keepE (by decide) (by decide) (h1.db e he)
    · obtain rfl : e = (lv, l) := by simpa using he
      exact keepE (by decide) (by decide) ho1
  · refine (hk1.mono (G := F) fun _ _ h => h.elim).trans (G := fun x => bv.ownBlock = some x ∨ x = bk) ((hk2.mono fun x _ hx => .inl hx).trans' (hk3.mono fun x _ hx => .inr hx)) fun x hx hg => ?_
    rcases hg with hg | rfl
    · exact (h.hF x).2 (.inr (.inl hg))
    · exact (h.hF _).2 (.inl rfl)
  · rintro x (rfl | hx | hx | ⟨e, he, hx⟩ | ⟨e, he, hx⟩)
    · exact .inl ((h.hF _).2 (.inl rfl))
    · rcases hat with hat | hat
      · exact .inl ((h.hF x).2 (.inr (.inl (hat ▸ hx))))
      · rw [hat] at hx
        have := hk1.size
        exact .inr (.inr (by have := Option.some.inj hx; omega))
    · exact .inl ((h.hF x).2 (.inr (.inr (.inl hx))))
    · rcases List.mem_append.1 he with he | he
      · exact .inl ((h.hF x).2 (.inr (.inr (.inr (.inl ⟨e, he, hx⟩)))))
      · obtain rfl : e = (lv, l) := by simpa using he
        exact .inr (.inl hx)
    · exact .inl ((h.hF x).2 (.inr (.inr (.inr (.inr ⟨e, he, hx⟩)))))
end

section
variable {w : World} {bk : Nat} {qb qi : List (Value × List Int)} {F : Nat → Prop}
set_option maxRecDepth 100000 in
set_option maxHeartbeats 1000000 in
theorem book_bytes_any (h : BookAt w bk qb qi F) {lv : Value} {l : List Int} (ho : OwnB w 0 lv l) (hd : ∀ x, lv.ownBlock = some x → ¬ F x) (hn : qb.length ≤ 1000000) :
    Calls Try.prog 20 #[.pointer (some ⟨bk, 0, none⟩), lv] w (Gives fun v w' => v = .tuple #[] ∧ BookPost w bk (qb ++ [(lv, l)]) qi F lv w') := by
  obtain ⟨bv, iv, h⟩ := h
  have HPO : Hid (∀ {w2 : World} {v' : Value}, w2.ownsRow 0 22 1 v' (qb.length + 1) (qb.map (·.1) ++ [lv]) → (w.alloc (.cells #[lv] 22)).grownBy w2 bv.ownBlock → (v'.ownBlock = bv.ownBlock ∨ v'.ownBlock = some (w.alloc (.cells #[lv] 22)).heap.size) →
      (∃ g c, v' = .slice (some ⟨g, 0, none⟩) (qb.length + 1) c) ∧ (w2.cell? ⟨bk, 0, none⟩ = some bv ∧ w2.frozen? ⟨bk, 0, none⟩ = false ∧ bk < w2.heap.size) ∧ BookPost w bk (qb ++ [(lv, l)]) qi F lv (w2.setCell ⟨bk, 0, none⟩ v')) := fun ho2 hg hat => ⟨own_pos ho2, book_bytes_post h ho hd ho2 hg hat⟩
  obtain ⟨la, lc, rfl⟩ := own_form ho
  have hrow := h.rb
  obtain ⟨ra, rc, rfl⟩ := own_form hrow
  have c0 := cell_at h.hb 0 rfl
  have HROW : Hid ((w.alloc (.cells #[.slice la l.length lc] 22)).ownsRow 0 22 1 (.slice ra qb.length rc) qb.length (qb.map (·.1))) := World.ownsRow.alloc hrow _
  have HN : Hid (∀ j u, [Value.slice la l.length lc][j]? = some u → (w.alloc (.cells #[.slice la l.length lc] 22)).cell? ((⟨w.heap.size, 0, none⟩ : Addr).add j) = some u) := cell_one_new w (.slice la l.length lc) 22
  have HU : Hid (∀ u ∈ [Value.slice la l.length lc], u.oneCell' = true) := fun u hu => by
    obtain rfl : u = .slice la l.length lc := by simpa using hu
    rfl
  clear h ho hd hrow
  go_enter Try.func20, Try.ntmps20
  go_wp2_with (at_builtin; go_must (refine wpList_app40 rfl _ _ rfl 0 _ qb.length _ rfl HROW.out ⟨w.heap.size, 0, none⟩ 1 [.slice la l.length lc] rfl rfl HN.out HU.out (by omega) (Nat.zero_le _) ?_); intro v' w2 ho2 hg hat; obtain ⟨⟨g, gc, rfl⟩, ⟨p1, p2, p3⟩, pp⟩ := HPO.out ho2 hg hat; have HPP := Lib.hid pp; clear ho2 hg hat pp)
  go_end0
  exact ⟨_, rfl, rfl, HPP.out⟩
end

section
variable {w : World} {bk : Nat} {qb qi : List (Value × List Int)} {F : Nat → Prop} {bv iv : Value}
theorem book_ints_post (h : BookLies w bk qb qi F bv iv) {lv : Value} {l : List Int} (ho : OwnI w 0 lv l) (hd : ∀ x, lv.ownBlock = some x → ¬ F x) {w2 : World} {v' : Value} (ho2 : w2.ownsRow 0 76 1 v' (qi.length + 1) (qi.map (·.1) ++ [lv])) (hg : (w.alloc (.cells #[lv] 76)).grownBy w2 iv.ownBlock) (hat : v'.ownBlock = iv.ownBlock ∨ v'.ownBlock = some (w.alloc (.cells #[lv] 76)).heap.size) :
    (w2.cell? ⟨bk, 2, none⟩ = some iv ∧ w2.frozen? ⟨bk, 2, none⟩ = false ∧ bk < w2.heap.size) ∧ BookPost w bk qb (qi ++ [(lv, l)]) F lv (w2.setCell ⟨bk, 2, none⟩ v') := by
  have hk1 : Keep NoF w (w.alloc (.cells #[lv] 76)) := Keep.alloc _ _ _
  have h1 := h.keep hk1 (fun _ _ h => h)
  have hk2 : Keep (fun x => iv.ownBlock = some x) (w.alloc (.cells #[lv] 76)) w2 := Keep.grown hg fun x hx => hx
  have hr : ¬ iv.ownBlock = some bk := fun e => by
    obtain ⟨cs, hcs⟩ := own_elem h1.ri e
    exact ne_of_elem hcs h1.hb (by decide) rfl
  have hb2 := hk2.at h1.hb hr
  have hk3 : Keep (· = bk) w2 (w2.setCell ⟨bk, 2, none⟩ v') := Keep.setCell (F := (· = bk)) w2 ⟨bk, 2, none⟩ v' rfl
  have hh := heap_setCell_same w2 bk 2 _ _ v' hb2
  have keepE : ∀ {base el n : Nat} {v : Value} {xs : List Value}, el ≠ 76 → el ≠ 53 → (w.alloc (.cells #[lv] 76)).ownsRow base el 1 v n xs → (w2.setCell ⟨bk, 2, none⟩ v').ownsRow base el 1 v n xs := fun e1 e2 hw => by
    have a1 := ownsRow_keep hw hk2 (fun x hx e => by
      obtain ⟨cs, hcs⟩ := own_elem hw hx
      obtain ⟨cs2, hcs2⟩ := own_elem h1.ri e
      exact ne_of_elem hcs hcs2 e1 rfl)
    exact ownsRow_keep a1 hk3 (fun x hx e => by
      obtain ⟨cs, hcs⟩ := own_elem a1 hx
      exact ne_of_elem hcs hb2 e2 e)
  have ho1 : OwnI (w.alloc (.cells #[lv] 76)) 0 lv l := ownsRow_keep ho hk1 (fun _ _ h => h)
  have hnew : (w2.setCell ⟨bk, 2, none⟩ v').ownsRow 0 76 1 v' (qi.length + 1) (qi.map (·.1) ++ [lv]) := ownsRow_keep ho2 hk3 (fun x hx e => by
    obtain ⟨cs, hcs⟩ := own_elem ho2 hx
    exact ne_of_elem hcs hb2 (by decide) e)
  refine ⟨⟨cell_at hb2 2 rfl, free_at hb2 2, lt_of_heap hb2⟩, fun x => x = bk ∨ bv.ownBlock = some x ∨ v'.ownBlock = some x ∨ (∃ e ∈ qb, e.1.ownBlock = some x) ∨ ∃ e ∈ qi ++ [(lv, l)], e.1.ownBlock = some x,
    ⟨bv, v', ⟨by simpa using hh, keepE (by decide) (by decide) h1.rb, by simpa using hnew, fun e he => keepE (by decide) (by decide) (h1.db e he), fun e he => ?_, h.pb, parted_snoc h.pi (fun f hf x hx e => hd x e ((h.hF x).2 (.inr (.inr (.inr (.inr ⟨f, hf, hx⟩)))))), fun x => Iff.rfl⟩⟩, ?_, ?_⟩
  · rcases List.mem_append.1 he with he | he
    · exact keepE (by decide) (by decide) (h1.di e he)
    · obtain rfl : e = (lv, l) := by simpa using he
      exact keepE (by decide) (by decide) ho1
  · refine (hk1.mono (G := F) fun _ _ h => h.elim).trans (G := fun x => iv.ownBlock = some x ∨ x = bk) ((hk2.mono fun x _ hx => .inl hx).trans' (hk3.mono fun x _ hx => .inr hx)) fun x hx hg => ?_
    rcases hg with hg | rfl
    · exact (h.hF x).2 (.inr (.inr (.inl hg)))
    · exact (h.hF _).2 (.inl rfl)
  · rintro x (rfl | hx | hx | ⟨e, he, hx⟩ | ⟨e, he, hx⟩)
    · exact .inl ((h.hF _).2 (.inl rfl))
    · exact .inl ((h.hF x).2 (.inr (.inl hx)))
    · rcases hat with hat | hat
      · exact .inl ((h.hF x).2 (.inr (.inr (.inl (hat ▸ hx)))))
      · rw [hat] at hx
        have := hk1.size
        exact .inr (.inr (by have := Option.some.inj hx; omega))
    · exact .inl ((h.hF x).2 (.inr (.inr (.inr (.inl ⟨e, he, hx⟩)))))
    · rcases List.mem_append.1 he with he | he
      · exact .inl ((h.hF x).2 (.inr (.inr (.inr (.inr ⟨e, he, hx⟩)))))
      · obtain rfl : e = (lv, l) := by simpa using he
        exact .inr (.inl hx)
end

section
variable {w : World} {bk : Nat} {qb qi : List (Value × List Int)} {F : Nat → Prop}
set_option maxRecDepth 100000 in
set_option maxHeartbeats 1000000 in
theorem book_ints_any (h : BookAt w bk qb qi F) {lv : Value} {l : List Int} (ho : OwnI w 0 lv l) (hd : ∀ x, lv.ownBlock = some x → ¬ F x) (hn : qi.length ≤ 1000000) :
    Calls Try.prog 60 #[.pointer (some ⟨bk, 0, none⟩), lv] w (Gives fun v w' => v = .tuple #[] ∧ BookPost w bk qb (qi ++ [(lv, l)]) F lv w') := by
  obtain ⟨bv, iv, h⟩ := h
  have HPO : Hid (∀ {w2 : World} {v' : Value}, w2.ownsRow 0 76 1 v' (qi.length + 1) (qi.map (·.1) ++ [lv]) → (w.alloc (.cells #[lv] 76)).grownBy w2 iv.ownBlock → (v'.ownBlock = iv.ownBlock ∨ v'.ownBlock = some (w.alloc (.cells #[lv] 76)).heap.size) →
      (∃ g c, v' = .slice (some ⟨g, 0, none⟩) (qi.length + 1) c) ∧ (w2.cell? ⟨bk, 2, none⟩ = some iv ∧ w2.frozen? ⟨bk, 2, none⟩ = false ∧ bk < w2.heap.size) ∧ BookPost w bk qb (qi ++ [(lv, l)]) F lv (w2.setCell ⟨bk, 2, none⟩ v')) := fun ho2 hg hat => ⟨own_pos ho2, book_ints_post h ho hd ho2 hg hat⟩
  obtain ⟨la, lc, rfl⟩ := own_form ho
  have hrow := h.ri
  obtain ⟨ra, rc, rfl⟩ := own_form hrow
  have c0 := cell_at h.hb 2 rfl
  have HROW : Hid ((w.alloc (.cells #[.slice la l.length lc] 76)).ownsRow 0 76 1 (.slice ra qi.length rc) qi.length (qi.map (·.1))) := World.ownsRow.alloc hrow _
  have HN : Hid (∀ j u, [Value.slice la l.length lc][j]? = some u → (w.alloc (.cells #[.slice la l.length lc] 76)).cell? ((⟨w.heap.size, 0, none⟩ : Addr).add j) = some u) := cell_one_new w (.slice la l.length lc) 76
  have HU : Hid (∀ u ∈ [Value.slice la l.length lc], u.oneCell' = true) := fun u hu => by
    obtain rfl : u = .slice la l.length lc := by simpa using hu
    rfl
  clear h ho hd hrow
  go_enter Try.func60, Try.ntmps60
  go_wp2_with (at_builtin; go_must (refine wpList_app42 rfl _ _ rfl 0 _ qi.length _ rfl HROW.out ⟨w.heap.size, 0, none⟩ 1 [.slice la l.length lc] rfl rfl HN.out HU.out (by omega) (Nat.zero_le _) ?_); intro v' w2 ho2 hg hat; obtain ⟨⟨g, gc, rfl⟩, ⟨p1, p2, p3⟩, pp⟩ := HPO.out ho2 hg hat; have HPP := Lib.hid pp; clear ho2 hg hat pp)
  go_end0
  exact ⟨_, rfl, rfl, HPP.out⟩
end
end Go.Proofs.Ytghnbbpoaeheaaa
