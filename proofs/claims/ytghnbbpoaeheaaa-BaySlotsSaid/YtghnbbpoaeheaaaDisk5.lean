/- The disk's functions, walked: Flush, Crash, Fail. -/
import Derived.Test.YtghnbbpoaeheaaaDisk4
namespace Go.Proofs.Ytghnbbpoaeheaaa
open Go.RowKit

/-- A list of bools as a slice. -/
def BoolsAt (w : World) (v : Value) (l : List Bool) : Prop :=
  ∃ a cap, v = .slice a l.length cap ∧ l.length ≤ maxLen ∧ (l ≠ [] → ∃ bb o, a = some ⟨bb, o, none⟩ ∧ w.rangeAt bb o (l.map Value.bool))
theorem BoolsAt.nil (w : World) : BoolsAt w (.slice none 0 0) [] := ⟨none, 0, rfl, by simp [maxLen], fun h => absurd rfl h⟩
/-- Of the slice's cells none turns where the blocks that turn hold something else. -/
theorem BoolsAt.keep {w w' : World} {v : Value} {l : List Bool} {G : Nat → Prop} (h : BoolsAt w v l) (hk : Keep G w w') (hG : ∀ a n c, v = .slice (some a) n c → ¬ G a.block) : BoolsAt w' v l := by
  obtain ⟨a, cap, hv, h2, h3⟩ := h
  refine ⟨a, cap, hv, h2, fun hl => ?_⟩
  obtain ⟨bb, o, ha, hr⟩ := h3 hl
  refine ⟨bb, o, ha, fun j u hu => ?_⟩
  have hc := hr j u hu
  have hb := World.block_lt_of_cell? w _ hc
  rw [World.cell?_of_block (w := w) (hk.block bb hb (by subst ha; exact hG _ _ _ hv))]
  exact hc

theorem all_true (i : Int) (w : World) : Calls Try.prog 85 #[.int .i64 i] w fun e w' => e = .returned (.bool true) ∧ w = w' := by
  go_enter Try.func85, Try.ntmps85
  go_wp2
  go_ret
  exact ⟨rfl, rfl⟩
theorem all_false (i : Int) (w : World) : Calls Try.prog 101 #[.int .i64 i] w fun e w' => e = .returned (.bool false) ∧ w = w' := by
  go_enter Try.func101, Try.ntmps101
  go_wp2
  go_ret
  exact ⟨rfl, rfl⟩
theorem kept_in (w : World) (bk bb o i n cap : Nat) (x : Bool) (hc : w.cell? ⟨bk, 0, none⟩ = some (.slice (some ⟨bb, o, none⟩) n cap)) (hi : i < n) (hx : w.cell? ⟨bb, o + i, none⟩ = some (.bool x)) :
    Calls Try.prog 86 #[.int .i64 i, .pointer (some ⟨bk, 0, none⟩)] w fun e w' => e = .returned (.bool x) ∧ w = w' := by
  go_enter Try.func86, Try.ntmps86
  go_wp2
  go_ret
  exact ⟨rfl, rfl⟩
theorem kept_out (w : World) (bk i n cap : Nat) (a : Option Addr) (hc : w.cell? ⟨bk, 0, none⟩ = some (.slice a n cap)) (hi : ¬ i < n) :
    Calls Try.prog 86 #[.int .i64 i, .pointer (some ⟨bk, 0, none⟩)] w fun e w' => e = .returned (.bool false) ∧ w = w' := by
  go_enter Try.func86, Try.ntmps86
  go_wp2
  go_ret
  exact ⟨rfl, rfl⟩
theorem kept_any (w : World) (bk i : Nat) (v : Value) (l : List Bool) (hc : w.cell? ⟨bk, 0, none⟩ = some v) (hv : BoolsAt w v l) :
    Calls Try.prog 86 #[.int .i64 i, .pointer (some ⟨bk, 0, none⟩)] w fun e w' => e = .returned (.bool (keepOf l i)) ∧ w = w' := by
  obtain ⟨a, cap, rfl, hm, hr⟩ := hv
  by_cases hi : i < l.length
  · obtain ⟨bb, o, rfl, hr2⟩ := hr (by intro e; rw [e] at hi; simp at hi)
    have hx : keepOf l i = l[i] := by unfold keepOf; simp [hi]
    rw [hx]
    exact kept_in w bk bb o i _ cap _ hc hi (hr2 i _ (by simp [hi]))
  · have hx : keepOf l i = false := by unfold keepOf; simp [List.getD_eq_getElem?_getD, List.getElem?_eq_none (Nat.le_of_not_lt hi)]
    rw [hx]
    exact kept_out w bk i _ cap a hc hi

/-- A disk in memory, of which it is not asked that a failed one has no cache. -/
structure Lies (w : World) (b : Nat) (D : Dk) (F : Nat → Prop) (bL bS : Nat) (csl : Value) (es : Array MapEntry) (ck : Nat) : Prop where
  hb : w.heap[b]? = some (.cells #[.slice (some ⟨bL, 0, none⟩) D.las.length D.las.length, csl, .map (some bS), .bool D.failed] 100 (0, 0))
  hbL : w.heap[bL]? = some (.cells (lasCells D.las).toArray 102 (0, 0))
  hbS : w.heap[bS]? = some (.map es ck)
  own : w.ownsRow 0 142 129 csl D.cache.length (cacheCells D.cache)
  hF : ∀ x, F x ↔ x = b ∨ x = bL ∨ x = bS ∨ csl.ownBlock = some x
  pos : 1 ≤ D.las.length
  le : D.las.length ≤ 8192
  sec : ∀ s ∈ D.las, s.length = 128
  ent : ∀ e ∈ D.cache, e.1 < D.las.length ∧ e.2.length = 128

theorem Lies.settled {w : World} {b : Nat} {D : Dk} {F : Nat → Prop} {bL bS : Nat} {csl : Value} {es : Array MapEntry} {ck : Nat} (h : Lies w b D F bL bS csl es ck) (keep : Nat → Bool) {w' : World}
    (he : SettleEnd w b bL bS ck (settled keep 0 D.cache D.las) w') : DiskPost w b (D.settle keep) F w' := by
  obtain ⟨wr, ⟨hk, hL⟩, rfl⟩ := he
  have hbL : b ≠ bL := ne_of_elem h.hb h.hbL (by decide)
  have hbS : b ≠ bS := ne_of_map h.hb h.hbS
  have hLS : bL ≠ bS := ne_of_map h.hbL h.hbS
  have hbr := hk.at h.hb hbL
  have hSr := hk.at h.hbS (Ne.symm hLS)
  have hb1 := heap_setCell_same wr b 1 _ _ (.slice none 0 0) hbr
  have hL1 := (Below.heap_setCell wr ⟨b, 1, none⟩ (.slice none 0 0) bL (Ne.symm hbL)).trans hL
  have hS1 := (Below.heap_setCell wr ⟨b, 1, none⟩ (.slice none 0 0) bS (Ne.symm hbS)).trans hSr
  have hset : ∀ (i : Nat) (o : Obj), i ≠ bS → (wr.setCell ⟨b, 1, none⟩ (.slice none 0 0)).heap[i]? = some o → ((wr.setCell ⟨b, 1, none⟩ (.slice none 0 0)).heap.setIfInBounds bS (.map #[] ck))[i]? = some o := fun i o hi ho => by
    rw [Array.getElem?_setIfInBounds, if_neg (Ne.symm hi)]; exact ho
  refine ⟨fun x => x = b ∨ x = bL ∨ x = bS, ⟨bL, bS, .slice none 0 0, #[], ck, hset _ _ hbS (by simpa [Dk.settle, length_settled] using hb1), hset _ _ hLS hL1, ?_, SeenOk.nil, World.ownsRow_nil _ _ _ _, by simp [Value.ownBlock], ?_⟩, ?_, ?_⟩
  · show ((wr.setCell ⟨b, 1, none⟩ (.slice none 0 0)).heap.setIfInBounds bS (.map #[] ck))[bS]? = _
    rw [Array.getElem?_setIfInBounds, if_pos rfl, if_pos (lt_of_heap hS1)]
  · exact ⟨by simpa [Dk.settle, length_settled] using h.pos, by simpa [Dk.settle, length_settled] using h.le, sec_settled keep _ _ _ (fun e he => (h.ent e he).2) h.sec, fun e he => by simp [Dk.settle] at he, fun _ => rfl⟩
  · refine ((hk.mono (G := F) fun x _ e => (h.hF x).2 (.inr (.inl e))).trans (G := (· = b)) (Keep.setCell _ ⟨b, 1, none⟩ (.slice none 0 0) rfl) fun x _ e => (h.hF x).2 (.inl e)).trans (G := (· = bS)) ?_ fun x _ e => (h.hF x).2 (.inr (.inr (.inl e)))
    refine ⟨rfl, rfl, rfl, by simp, fun i _ hi => ?_⟩
    show ((wr.setCell ⟨b, 1, none⟩ (.slice none 0 0)).heap.setIfInBounds bS (.map #[] ck))[i]? = _
    rw [Array.getElem?_setIfInBounds, if_neg (Ne.symm hi)]
  · rintro x (rfl | rfl | rfl)
    · exact .inl ((h.hF _).2 (.inl rfl))
    · exact .inl ((h.hF _).2 (.inr (.inl rfl)))
    · exact .inl ((h.hF _).2 (.inr (.inr (.inl rfl))))
theorem DiskAt.lies {w : World} {b : Nat} {D : Dk} {F : Nat → Prop} (h : DiskAt w b D F) : ∃ bL bS csl es ck, Lies w b D F bL bS csl es ck := by
  obtain ⟨bL, bS, csl, es, ck, h1, h2, h3, _, h5, hF, ok⟩ := h
  exact ⟨bL, bS, csl, es, ck, h1, h2, h3, h5, hF, ok.pos, ok.le, ok.sec, ok.ent⟩
theorem Lies.rows {w : World} {b : Nat} {D : Dk} {F : Nat → Prop} {bL bS : Nat} {es : Array MapEntry} {ck g cap : Nat} {n : Nat} (h : Lies w b D F bL bS (.slice (some ⟨g, 0, none⟩) n cap) es ck) :
    ∀ j k d, D.cache[j]? = some (k, d) → w.rangeAt g (j * 129) (entCells (k, d)) ∧ k < D.las.length ∧ d.length = 128 := by
  intro j k d hj
  have hent : ∀ e ∈ D.cache, (entCells e).length = 129 := fun e he => by simp [entCells, (h.ent e he).2]
  have hm := List.mem_of_getElem? hj
  have hjl : j < D.cache.length := (List.getElem?_eq_some_iff.1 hj).1
  refine ⟨?_, (h.ent _ hm).1, (h.ent _ hm).2⟩
  obtain ⟨hl, h5⟩ := h.own
  rcases h5 with ⟨h5, _⟩ | ⟨g', cap', cur, hv, _, hh, hc, hmx, hs, ht⟩
  · cases h5
  · obtain rfl : g' = g := by simp at hv; exact hv.1.symm
    refine range_at hh _ _ ?_
    rw [show (entCells (k, d)).length = 129 from hent _ hm]
    have h := row_flatMap entCells 129 D.cache j (k, d) hent hj (cur.toList.drop (D.cache.length * 129))
    rw [← h]
    congr 2
    unfold cacheCells at ht
    rw [← ht, List.take_append_drop]

theorem settle_any_85 {w : World} {b : Nat} {D : Dk} {F : Nat → Prop} {bL bS : Nat} {csl : Value} {es : Array MapEntry} {ck : Nat} (h : Lies w b D F bL bS csl es ck) (keep : Nat → Bool) (hcl : D.cache.length ≤ 1000000)
    (hcall : ∀ (i : Nat) (w' : World), Keep (· = bL) w w' → Calls Try.prog 85 #[.int .i64 i] w' fun e w'' => e = .returned (.bool (keep i)) ∧ w' = w'') :
    Calls Try.prog 84 #[.pointer (some ⟨b, 0, none⟩), .func (.func 85) #[] #[]] w (Gives fun v w' => v = .tuple #[] ∧ DiskPost w b (D.settle keep) F w') := by
  have hbL : b ≠ bL := ne_of_elem h.hb h.hbL (by decide)
  have hbS : bS ≠ b := Ne.symm (ne_of_map h.hb h.hbS)
  have hLS : bS ≠ bL := Ne.symm (ne_of_map h.hbL h.hbS)
  have hown := h.own
  rcases id hown.2 with ⟨rfl, h0⟩ | ⟨g, cap, cur, rfl, _, hh, _⟩
  · have hb' := h.hb
    have hc : D.cache = [] := List.length_eq_zero_iff.1 h0
    refine (settle_nil_85 w b bL bS _ D.las keep _ es ck hb' h.hbL h.hbS hbS).mono fun e w' hg => ?_
    obtain ⟨v, rfl, rfl, he⟩ := hg
    exact ⟨_, rfl, rfl, h.settled keep (by rw [hc]; exact he)⟩
  · have hgL : g ≠ bL := ne_of_elem hh h.hbL (by decide)
    refine (settle_85 w b bL bS g cap _ D.cache D.las keep _ es ck h.hb h.hbL h.hbS h.rows rfl h.sec hgL hbL hLS hbS (lt_of_heap hh) hcl (fun i w' _ hk => hcall i w' hk)).mono fun e w' hg => ?_
    obtain ⟨v, rfl, rfl, he⟩ := hg
    exact ⟨_, rfl, rfl, h.settled keep he⟩

theorem settle_any_101 {w : World} {b : Nat} {D : Dk} {F : Nat → Prop} {bL bS : Nat} {csl : Value} {es : Array MapEntry} {ck : Nat} (h : Lies w b D F bL bS csl es ck) (keep : Nat → Bool) (hcl : D.cache.length ≤ 1000000)
    (hcall : ∀ (i : Nat) (w' : World), Keep (· = bL) w w' → Calls Try.prog 101 #[.int .i64 i] w' fun e w'' => e = .returned (.bool (keep i)) ∧ w' = w'') :
    Calls Try.prog 84 #[.pointer (some ⟨b, 0, none⟩), .func (.func 101) #[] #[]] w (Gives fun v w' => v = .tuple #[] ∧ DiskPost w b (D.settle keep) F w') := by
  have hbL : b ≠ bL := ne_of_elem h.hb h.hbL (by decide)
  have hbS : bS ≠ b := Ne.symm (ne_of_map h.hb h.hbS)
  have hLS : bS ≠ bL := Ne.symm (ne_of_map h.hbL h.hbS)
  have hown := h.own
  rcases id hown.2 with ⟨rfl, h0⟩ | ⟨g, cap, cur, rfl, _, hh, _⟩
  · have hb' := h.hb
    have hc : D.cache = [] := List.length_eq_zero_iff.1 h0
    refine (settle_nil_101 w b bL bS _ D.las keep _ es ck hb' h.hbL h.hbS hbS).mono fun e w' hg => ?_
    obtain ⟨v, rfl, rfl, he⟩ := hg
    exact ⟨_, rfl, rfl, h.settled keep (by rw [hc]; exact he)⟩
  · have hgL : g ≠ bL := ne_of_elem hh h.hbL (by decide)
    refine (settle_101 w b bL bS g cap _ D.cache D.las keep _ es ck h.hb h.hbL h.hbS h.rows rfl h.sec hgL hbL hLS hbS (lt_of_heap hh) hcl (fun i w' _ hk => hcall i w' hk)).mono fun e w' hg => ?_
    obtain ⟨v, rfl, rfl, he⟩ := hg
    exact ⟨_, rfl, rfl, h.settled keep he⟩

theorem settle_any_86 {w : World} {b : Nat} {D : Dk} {F : Nat → Prop} {bL bS : Nat} {csl : Value} {es : Array MapEntry} {ck : Nat} (h : Lies w b D F bL bS csl es ck) (bk : Nat) (keep : Nat → Bool) (hcl : D.cache.length ≤ 1000000)
    (hcall : ∀ (i : Nat) (w' : World), Keep (· = bL) w w' → Calls Try.prog 86 #[.int .i64 i, .pointer (some ⟨bk, 0, none⟩)] w' fun e w'' => e = .returned (.bool (keep i)) ∧ w' = w'') :
    Calls Try.prog 84 #[.pointer (some ⟨b, 0, none⟩), .func (.func 86) #[] #[.pointer (some ⟨bk, 0, none⟩)]] w (Gives fun v w' => v = .tuple #[] ∧ DiskPost w b (D.settle keep) F w') := by
  have hbL : b ≠ bL := ne_of_elem h.hb h.hbL (by decide)
  have hbS : bS ≠ b := Ne.symm (ne_of_map h.hb h.hbS)
  have hLS : bS ≠ bL := Ne.symm (ne_of_map h.hbL h.hbS)
  have hown := h.own
  rcases id hown.2 with ⟨rfl, h0⟩ | ⟨g, cap, cur, rfl, _, hh, _⟩
  · have hb' := h.hb
    have hc : D.cache = [] := List.length_eq_zero_iff.1 h0
    refine (settle_nil_86 w b bL bS _ bk D.las keep _ es ck hb' h.hbL h.hbS hbS).mono fun e w' hg => ?_
    obtain ⟨v, rfl, rfl, he⟩ := hg
    exact ⟨_, rfl, rfl, h.settled keep (by rw [hc]; exact he)⟩
  · have hgL : g ≠ bL := ne_of_elem hh h.hbL (by decide)
    refine (settle_86 w b bL bS g cap _ bk D.cache D.las keep _ es ck h.hb h.hbL h.hbS h.rows rfl h.sec hgL hbL hLS hbS (lt_of_heap hh) hcl (fun i w' _ hk => hcall i w' hk)).mono fun e w' hg => ?_
    obtain ⟨v, rfl, rfl, he⟩ := hg
    exact ⟨_, rfl, rfl, h.settled keep he⟩

/-! ### Flush, Fail, Crash -/
theorem flush_failed {w : World} {b : Nat} {D : Dk} {F : Nat → Prop} (h : DiskAt w b D F) (hf : D.failed = true) :
    Calls Try.prog 38 #[.pointer (some ⟨b, 0, none⟩)] w (Gives (CodePost 2 (DiskPost w b D F))) := by
  obtain ⟨bL, bS, csl, h0, _, _, h3⟩ := h.head
  rw [hf] at h3
  have hp := Lib.hid (DiskPost.same h)
  clear h hf
  go_enter Try.func38, Try.ntmps38
  go_wp2
  go_ret
  exact ⟨_, rfl, rfl, hp.out⟩
theorem flush_ok {w : World} {b : Nat} {D : Dk} {F : Nat → Prop} (h : DiskAt w b D F) (hf : D.failed = false) (hcl : D.cache.length ≤ 1000000) :
    Calls Try.prog 38 #[.pointer (some ⟨b, 0, none⟩)] w (Gives (CodePost 0 (DiskPost w b (D.settle fun _ => true) F))) := by
  obtain ⟨bL, bS, csl, h0, _, _, h3⟩ := h.head
  rw [hf] at h3
  obtain ⟨bL', bS', csl', es, ck, hl⟩ := h.lies
  have HS := Lib.hid (settle_any_85 hl (fun _ => true) hcl (fun i w' _ => all_true i w'))
  clear h hf hl hcl
  go_enter Try.func38, Try.ntmps38
  go_wp2_with (go_at_call 84; refine HS.out.mono ?_; rintro e w' ⟨v, rfl, rfl, hp⟩; have HP := Lib.hid hp; clear hp)
  go_ret
  exact ⟨_, rfl, rfl, HP.out⟩
theorem flush_any {w : World} {b : Nat} {D : Dk} {F : Nat → Prop} (h : DiskAt w b D F) (hcl : D.cache.length ≤ 1000000) :
    Calls Try.prog 38 #[.pointer (some ⟨b, 0, none⟩)] w (Gives (CodePost D.fcode (DiskPost w b D.flush F))) := by
  unfold Dk.fcode Dk.flush
  cases hf : D.failed
  · simpa using flush_ok h hf hcl
  · simpa using flush_failed h hf

theorem fail_any {w : World} {b : Nat} {D : Dk} {F : Nat → Prop} (h : DiskAt w b D F) (hcl : D.cache.length ≤ 1000000) :
    Calls Try.prog 63 #[.pointer (some ⟨b, 0, none⟩)] w (Gives fun v w' => v = .tuple #[] ∧ DiskPost w b D.fail F w') := by
  obtain ⟨bL, bS, csl, es, ck, hl⟩ := h.lies
  have h3 := cell_at hl.hb 3 rfl
  have f3 := free_at hl.hb 3
  have hbLn : b ≠ bL := ne_of_elem hl.hb hl.hbL (by decide)
  have hbSn : b ≠ bS := ne_of_map hl.hb hl.hbS
  have hk : Keep (· = b) w (w.setCell ⟨b, 3, none⟩ (.bool true)) := Keep.setCell _ _ _ rfl
  have hb' := heap_setCell_same w b 3 _ _ (.bool true) hl.hb
  have hl' : Lies (w.setCell ⟨b, 3, none⟩ (.bool true)) b { D with failed := true } F bL bS csl es ck := by
    refine ⟨by simpa using hb', hk.at hl.hbL (Ne.symm hbLn), hk.at hl.hbS (Ne.symm hbSn), ownsRow_keep hl.own hk ?_, hl.hF, hl.pos, hl.le, hl.sec, hl.ent⟩
    intro x hx e
    obtain ⟨cs, hcs⟩ := own_elem hl.own hx
    exact ne_of_elem hcs hl.hb (by decide) e
  have HS := Lib.hid (settle_any_101 hl' (fun _ => false) hcl (fun i w' _ => all_false i w'))
  have hfe : ({ D with failed := true } : Dk).settle (fun _ => false) = D.fail := by simp [Dk.settle, Dk.fail, settled_none]
  rw [hfe] at HS
  have HK : Hid (Keep F w (w.setCell ⟨b, 3, none⟩ (.bool true))) := hk.mono fun x _ e => (hl.hF x).2 (.inl e)
  clear h hl hcl hl' hb' hk hbLn hbSn hfe
  go_enter Try.func63, Try.ntmps63
  go_wp2_with (go_at_call 84; refine HS.out.mono ?_; rintro e w' ⟨v, rfl, rfl, hp⟩; have HP := Lib.hid hp; clear hp)
  go_end0
  obtain ⟨F', p1, p2, p3⟩ := HP.out
  exact ⟨_, rfl, rfl, F', p1, HK.out.trans' p2, fun x hx => (p3 x hx).imp id (fun h => by simpa using h)⟩

theorem crash_any {w : World} {b : Nat} {D : Dk} {F : Nat → Prop} (h : DiskAt w b D F) (v : Value) (l : List Bool) (hv : BoolsAt w v l) (hvF : ∀ a n c, v = .slice (some a) n c → l ≠ [] → ¬ F a.block) (hcl : D.cache.length ≤ 1000000) :
    Calls Try.prog 39 #[.pointer (some ⟨b, 0, none⟩), v] w (Gives fun v w' => v = .tuple #[] ∧ DiskPost w b (D.crash l) F w') := by
  have hk : Keep F w (w.alloc (.cells #[v] 57)) := Keep.alloc _ _ _
  have hlt := h.lt
  have h' : DiskAt (w.alloc (.cells #[v] 57)) b D F := h.keep (Keep.alloc (fun _ => False) _ _) (fun _ _ h => h)
  obtain ⟨bL, bS, csl, es, ck, hl⟩ := h'.lies
  have hcall : ∀ (i : Nat) (w' : World), Keep (· = bL) (w.alloc (.cells #[v] 57)) w' → Calls Try.prog 86 #[.int .i64 i, .pointer (some ⟨w.heap.size, 0, none⟩)] w' fun e w'' => e = .returned (.bool (keepOf l i)) ∧ w' = w'' := by
    intro i w' hk'
    have hLlt : bL < w.heap.size := hlt _ ((hl.hF _).2 (.inr (.inl rfl)))
    have hnew := hk'.at (heap_alloc_new w (.cells #[v] 57)) (by intro e; omega)
    refine kept_any w' w.heap.size i v l (cell_at hnew 0 rfl) ?_
    obtain ⟨a, cap, rfl, h2, h3⟩ := hv
    refine ⟨a, cap, rfl, h2, fun hne => ?_⟩
    obtain ⟨bb, o, rfl, hr⟩ := h3 hne
    refine ⟨bb, o, rfl, fun j u hu => ?_⟩
    have hc := hr j u hu
    have hb : bb < w.heap.size := World.block_lt_of_cell? w _ hc
    have hnF : bb ≠ bL := fun e => hvF _ _ _ rfl hne (e ▸ (hl.hF _).2 (.inr (.inl rfl)))
    rw [World.cell?_of_block (w := w) ((hk'.block bb (by simp; omega) hnF).trans (Below.heap_alloc w _ bb hb))]
    exact hc
  have HS := Lib.hid (settle_any_86 hl w.heap.size (keepOf l) hcl hcall)
  have HK := Lib.hid hk
  obtain ⟨a, cap, rfl, _⟩ := hv
  clear h hvF hcl hk hlt h' hl hcall
  go_enter Try.func39, Try.ntmps39
  go_wp2_with (first | (go_at_call 84; go_must (refine HS.out.mono ?_); rintro e w' ⟨v, rfl, rfl, hp⟩; have HP := Lib.hid hp; clear hp))
  go_end0
  obtain ⟨F', p1, p2, p3⟩ := HP.out
  exact ⟨_, rfl, rfl, F', p1, HK.out.trans' p2, fun x hx => (p3 x hx).imp id (fun h => by simp at h; omega)⟩
end Go.Proofs.Ytghnbbpoaeheaaa
