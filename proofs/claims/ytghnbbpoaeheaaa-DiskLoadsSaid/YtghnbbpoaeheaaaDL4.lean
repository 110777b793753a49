/- The disk's functions, walked: Flush, Crash, Fail. -/
import Derived.Test.YtghnbbpoaeheaaaDL3
namespace Go.Proofs.Ytghnbbpoaeheaaa
open Go.RowKit

/-- A list of bools as a slice. -/
def BoolsAt (w : World) (v : Value) (l : List Bool) : Prop :=
  ∃ a cap, v = .slice a l.length cap ∧ l.length ≤ maxLen ∧ (l ≠ [] → ∃ bb o, a = some ⟨bb, o, none⟩ ∧ w.rangeAt bb o (l.map Value.bool))
theorem BoolsAt.nil (w : World) : BoolsAt w (.slice none 0 0) [] := ⟨none, 0, rfl, by simp [maxLen], fun h => absurd rfl h⟩
/-- Of the slice's cells none turns where the blocks that turn hold something else. -/
theorem BoolsAt.keep {w w' : World} {v : Value} {l : List Bool} {G : Nat → Prop} (h : BoolsAt w v l) (hk : Keep G w w') (hG : ∀ a n c, v = .slice (some a) n c → ¬ G a.block) : BoolsAt w' v l := by
  obtain ⟨a, cap, hv, h2, h3⟩ := h
  refine ⟨a, cap, hv, h2, fun hl => ?_⟩
  obtain ⟨bb, o, ha, hr⟩ := h3 hl
  refine ⟨bb, o, ha, fun j u hu => ?_⟩
  have hc := hr j u hu
  have hb := World.block_lt_of_cell? w _ hc
  rw [World.cell?_of_block (w := w) (hk.block bb hb (by subst ha; exact hG _ _ _ hv))]
  exact hc

theorem all_true (i : Int) (w : World) : Calls Try.prog 85 #[.int .i64 i] w fun e w' => e = .returned (.bool true) ∧ w = w' := by
  go_enter Try.func85, Try.ntmps85
  go_wp2
  go_ret
  exact ⟨rfl, rfl⟩
theorem all_false (i : Int) (w : World) : Calls Try.prog 101 #[.int .i64 i] w fun e w' => e = .returned (.bool false) ∧ w = w' := by
  go_enter Try.func101, Try.ntmps101
  go_wp2
  go_ret
  exact ⟨rfl, rfl⟩
theorem kept_in (w : World) (bk bb o i n cap : Nat) (x : Bool) (hc : w.cell? ⟨bk, 0, none⟩ = some (.slice (some ⟨bb, o, none⟩) n cap)) (hi : i < n) (hx : w.cell? ⟨bb, o + i, none⟩ = some (.bool x)) :
    Calls Try.prog 86 #[.int .i64 i, .pointer (some ⟨bk, 0, none⟩)] w fun e w' => e = .returned (.bool x) ∧ w = w' := by
  go_enter Try.func86, Try.ntmps86
  go_wp2
  go_ret
  exact ⟨rfl, rfl⟩
theorem kept_out (w : World) (bk i n cap : Nat) (a : Option Addr) (hc : w.cell? ⟨bk, 0, none⟩ = some (.slice a n cap)) (hi : ¬ i < n) :
    Calls Try.prog 86 #[.int .i64 i, .pointer (some ⟨bk, 0, none⟩)] w fun e w' => e = .returned (.bool false) ∧ w = w' := by
  go_enter Try.func86, Try.ntmps86
  go_wp2
  go_ret
  exact ⟨rfl, rfl⟩
theorem kept_any (w : World) (bk i : Nat) (v : Value) (l : List Bool) (hc : w.cell? ⟨bk, 0, none⟩ = some v) (hv : BoolsAt w v l) :
    Calls Try.prog 86 #[.int .i64 i, .pointer (some ⟨bk, 0, none⟩)] w fun e w' => e = .returned (.bool (keepOf l i)) ∧ w = w' := by
  obtain ⟨a, cap, rfl, hm, hr⟩ := hv
  by_cases hi : i < l.length
  · obtain ⟨bb, o, rfl, hr2⟩ := hr (by intro e; rw [e] at hi; simp at hi)
    have hx : keepOf l i = l[i] := by unfold keepOf; simp [hi]
    rw [hx]
    exact kept_in w bk bb o i _ cap _ hc hi (hr2 i _ (by simp [hi]))
  · have hx : keepOf l i = false := by unfold keepOf; simp [List.getD_eq_getElem?_getD, List.getElem?_eq_none (Nat.le_of_not_lt hi)]
    rw [hx]
    exact kept_out w bk i _ cap a hc hi

/-- A disk in memory, of which it is not asked that a failed one has no cache. -/
structure Lies (w : World) (b : Nat) (D : Dk) (F : Nat → Prop) (bL bS : Nat) (csl : Value) (es : Array MapEntry) (ck : Nat) : Prop where
  hb : w.heap[b]? = some (.cells #[.slice (some ⟨bL, 0, none⟩) D.las.length D.las.length, csl, .map (some bS), .bool D.failed] 100 (0, 0))
  hbL : w.heap[bL]? = some (.cells (lasCells D.las).toArray 102 (0, 0))
  hbS : w.heap[bS]? = some (.map es ck)
  own : w.ownsRow 0 142 129 csl D.cache.length (cacheCells D.cache)
  hF : ∀ x, F x ↔ x = b ∨ x = bL ∨ x = bS ∨ csl.ownBlock = some x
  pos : 1 ≤ D.las.length
  le : D.las.length ≤ 8192
  sec : ∀ s ∈ D.las, s.length = 128
  ent : ∀ e ∈ D.cache, e.1 < D.las.length ∧ e.2.length = 128

theorem Lies.settled {w : World} {b : Nat} {D : Dk} {F : Nat → Prop} {bL bS : Nat} {csl : Value} {es : Array MapEntry} {ck : Nat} (h : Lies w b D F bL bS csl es ck) (keep : Nat → Bool) {w' : World}
    (he : SettleEnd w b bL bS ck (settled keep 0 D.cache D.las) w') : DiskPost w b (D.settle keep) F w' := by
  obtain ⟨wr, ⟨hk, hL⟩, rfl⟩ := he
  have hbL : b ≠ bL := ne_of_elem h.hb h.hbL (by decide)
  have hbS : b ≠ bS := ne_of_map h.hb h.hbS
  have hLS : bL ≠ bS := ne_of_map h.hbL h.hbS
  have hbr := hk.at h.hb hbL
  have hSr := hk.at h.hbS (Ne.symm hLS)
  have hb1 := heap_setCell_same wr b 1 _ _ (.slice none 0 0) hbr
  have hL1 := (Below.heap_setCell wr ⟨b, 1, none⟩ (.slice none 0 0) bL (Ne.symm hbL)).trans hL
  have hS1 := (Below.heap_setCell wr ⟨b, 1, none⟩ (.slice none 0 0) bS (Ne.symm hbS)).trans hSr
  have hset : ∀ (i : Nat) (o : Obj), i ≠ bS → (wr.setCell ⟨b, 1, none⟩ (.slice none 0 0)).heap[i]? = some o → ((wr.setCell ⟨b, 1, none⟩ (.slice none 0 0)).heap.setIfInBounds bS (.map #[] ck))[i]? = some o := fun i o hi ho => by
    rw [Array.getElem?_setIfInBounds, if_neg (Ne.symm hi)]; exact ho
  refine ⟨fun x => x = b ∨ x = bL ∨ x = bS, ⟨bL, bS, .slice none 0 0, #[], ck, hset _ _ hbS (by simpa [Dk.settle, length_settled] using hb1), hset _ _ hLS hL1, ?_, SeenOk.nil, World.ownsRow_nil _ _ _ _, by simp [Value.ownBlock], ?_⟩, ?_, ?_⟩
  · show ((wr.setCell ⟨b, 1, none⟩ (.slice none 0 0)).heap.setIfInBounds bS (.map #[] ck))[bS]? = _
    rw [Array.getElem?_setIfInBounds, if_pos rfl, if_pos (lt_of_heap hS1)]
  · exact ⟨by simpa [Dk.settle, length_settled] using h.pos, by simpa [Dk.settle, length_settled] using h.le, sec_settled keep _ _ _ (fun e he => (h.ent e he).2) h.sec, fun e he => by simp [Dk.settle] at he, fun _ => rfl⟩
  · refine ((hk.mono (G := F) fun x _ e => (h.hF x).2 (.inr (.inl e))).trans (G := (· = b)) (Keep.setCell _ ⟨b, 1, none⟩ (.slice none 0 0) rfl) fun x _ e => (h.hF x).2 (.inl e)).trans (G := (· = bS)) ?_ fun x _ e => (h.hF x).2 (.inr (.inr (.inl e)))
    refine ⟨rfl, rfl, rfl, by simp, fun i _ hi => ?_⟩
    show ((wr.setCell ⟨b, 1, none⟩ (.slice none 0 0)).heap.setIfInBounds bS (.map #[] ck))[i]? = _
    rw [Array.getElem?_setIfInBounds, if_neg (Ne.symm hi)]
  · rintro x (rfl | rfl | rfl)
    · exact .inl ((h.hF _).2 (.inl rfl))
    · exact .inl ((h.hF _).2 (.inr (.inl rfl)))
    · exact .inl ((h.hF _).2 (.inr (.inr (.inl rfl))))
theorem DiskAt.lies {w : World} {b : Nat} {D : Dk} {F : Nat → Prop} (h : DiskAt w b D F) : ∃ bL bS csl es ck, Lies w b D F bL bS csl es ck := by
  obtain ⟨bL, bS, csl, es, ck, h1, h2, h3, _, h5, hF, ok⟩ := h
  exact ⟨bL, bS, csl, es, ck, h1, h2, h3, h5, hF, ok.pos, ok.le, ok.sec, ok.ent⟩
theorem Lies.rows {w : World} {b : Nat} {D : Dk} {F : Nat → Prop} {bL bS : Nat} {es : Array MapEntry} {ck g cap : Nat} {n : Nat} (h : Lies w b D F bL bS (.slice (some ⟨g, 0, none⟩) n cap) es ck) :
    ∀ j k d, D.cache[j]? = some (k, d) → w.rangeAt g (j * 129) (entCells (k, d)) ∧ k < D.las.length ∧ d.length = 128 := by
  intro j k d hj
  have hent : ∀ e ∈ D.cache, (entCells e).length = 129 := fun e he => by simp [entCells, (h.ent e he).2]
  have hm := List.mem_of_getElem? hj
  have hjl : j < D.cache.length := (List.getElem?_eq_some_iff.1 hj).1
  refine ⟨?_, (h.ent _ hm).1, (h.ent _ hm).2⟩
  obtain ⟨hl, h5⟩ := h.own
  rcases h5 with ⟨h5, _⟩ | ⟨g', cap', cur, hv, _, hh, hc, hmx, hs, ht⟩
  · cases h5
  · obtain rfl : g' = g := by simp at hv; exact hv.1.symm
    refine range_at hh _ _ ?_
    rw [show (entCells (k, d)).length = 129 from hent _ hm]
    have h := row_flatMap entCells 129 D.cache j (k, d) hent hj (cur.toList.drop (D.cache.length * 129))
    rw [← h]
    congr 2
    unfold cacheCells at ht
    rw [← ht, List.take_append_drop]

theorem settle_any_85 {w : World} {b : Nat} {D : Dk} {F : Nat → Prop} {bL bS : Nat} {csl : Value} {es : Array MapEntry} {ck : Nat} (h : Lies w b D F bL bS csl es ck) (keep : Nat → Bool) (hcl : D.cache.length ≤ 1000000)
    (hcall : ∀ (i : Nat) (w' : World), Keep (· = bL) w w' → Calls Try.prog 85 #[.int .i64 i] w' fun e w'' => e = .returned (.bool (keep i)) ∧ w' = w'') :
    Calls Try.prog 84 #[.pointer (some ⟨b, 0, none⟩), .func (.func 85) #[] #[]] w (Gives fun v w' => v = .tuple #[] ∧ DiskPost w b (D.settle keep) F w') := by
  have hbL : b ≠ bL := ne_of_elem h.hb h.hbL (by decide)
  have hbS : bS ≠ b := Ne.symm (ne_of_map h.hb h.hbS)
  have hLS : bS ≠ bL := Ne.symm (ne_of_map h.hbL h.hbS)
  have hown := h.own
  rcases id hown.2 with ⟨rfl, h0⟩ | ⟨g, cap, cur, rfl, _, hh, _⟩
  · have hb' := h.hb
    have hc : D.cache = [] := List.length_eq_zero_iff.1 h0
    refine (settle_nil_85 w b bL bS _ D.las keep _ es ck hb' h.hbL h.hbS hbS).mono fun e w' hg => ?_
    obtain ⟨v, rfl, rfl, he⟩ := hg
    exact ⟨_, rfl, rfl, h.settled keep (by rw [hc]; exact he)⟩
  · have hgL : g ≠ bL := ne_of_elem hh h.hbL (by decide)
    refine (settle_85 w b bL bS g cap _ D.cache D.las keep _ es ck h.hb h.hbL h.hbS h.rows rfl h.sec hgL hbL hLS hbS (lt_of_heap hh) hcl (fun i w' _ hk => hcall i w' hk)).mono fun e w' hg => ?_
    obtain ⟨v, rfl, rfl, he⟩ := hg
    exact ⟨_, rfl, rfl, h.settled keep he⟩

theorem settle_any_101 {w : World} {b : Nat} {D : Dk} {F : Nat → Prop} {bL bS : Nat} {csl : Value} {es : Array MapEntry} {ck : Nat} (h : Lies w b D F bL bS csl es ck) (keep : Nat → Bool) (hcl : D.cache.length ≤ 1000000)
    (hcall : ∀ (i : Nat) (w' : World), Keep (· = bL) w w' → Calls Try.prog 101 #[.int .i64 i] w' fun e w'' => e = .returned (.bool (keep i)) ∧ w' = w'') :
    Calls Try.prog 84 #[.pointer (some ⟨b, 0, none⟩), .func (.func 101) #[] #[]] w (Gives fun v w' => v = .tuple #[] ∧ DiskPost w b (D.settle keep) F w') := by
  have hbL : b ≠ bL := ne_of_elem h.hb h.hbL (by decide)
  have hbS : bS ≠ b := Ne.symm (ne_of_map h.hb h.hbS)
  have hLS : bS ≠ bL := Ne.symm (ne_of_map h.hbL h.hbS)
  have hown := h.own
  rcases id hown.2 with ⟨rfl, h0⟩ | ⟨g, cap, cur, rfl, _, hh, _⟩
  · have hb' := h.hb
    have hc : D.cache = [] := List.length_eq_zero_iff.1 h0
    refine (settle_nil_101 w b bL bS _ D.las keep _ es ck hb' h.hbL h.hbS hbS).mono fun e w' hg => ?_
    obtain ⟨v, rfl, rfl, he⟩ := hg
    exact ⟨_, rfl, rfl, h.settled keep (by rw [hc]; exact he)⟩
  · have hgL : g ≠ bL := ne_of_elem hh h.hbL (by decide)
    refine (settle_101 w b bL bS g cap _ D.cache D.las keep _ es ck h.hb h.hbL h.hbS h.rows rfl h.sec hgL hbL hLS hbS (lt_of_heap hh) hcl (fun i w' _ hk => hcall i w' hk)).mono fun e w' hg => ?_
    obtain ⟨v, rfl, rfl, he⟩ := hg
    exact ⟨_, rfl, rfl, h.settled keep he⟩

theorem settle_any_86 {w : World} {b : Nat} {D : Dk} {F : Nat → Prop} {bL bS : Nat} {csl : Value} {es : Array MapEntry} {ck : Nat} (h : Lies w b D F bL bS csl es ck) (bk : Nat) (keep : Nat → Bool) (hcl : D.cache.length ≤ 1000000)
    (hcall : ∀ (i : Nat) (w' : World), Keep (· = bL) w w' → Calls Try.prog 86 #[.int .i64 i, .pointer (some ⟨bk, 0, none⟩)] w' fun e w'' => e = .returned (.bool (keep i)) ∧ w' = w'') :
    Calls Try.prog 84 #[.pointer (some ⟨b, 0, none⟩), .func (.func 86) #[] #[.pointer (some ⟨bk, 0, none⟩)]] w (Gives fun v w' => v = .tuple #[] ∧ DiskPost w b (D.settle keep) F w') := by
  have hbL : b ≠ bL := ne_of_elem h.hb h.hbL (by decide)
  have hbS : bS ≠ b := Ne.symm (ne_of_map h.hb h.hbS)
  have hLS : bS ≠ bL := Ne.symm (ne_of_map h.hbL h.hbS)
  have hown := h.own
  rcases id hown.2 with ⟨rfl, h0⟩ | ⟨g, cap, cur, rfl, _, hh, _⟩
  · have hb' := h.hb
    have hc : D.cache = [] := List.length_eq_zero_iff.1 h0
    refine (settle_nil_86 w b bL bS _ bk D.las keep _ es ck hb' h.hbL h.hbS hbS).mono fun e w' hg => ?_
    obtain ⟨v, rfl, rfl, he⟩ := hg
    exact ⟨_, rfl, rfl, h.settled keep (by rw [hc]; exact he)⟩
  · have hgL : g ≠ bL := ne_of_elem hh h.hbL (by decide)
    refine (settle_86 w b bL bS g cap _ bk D.cache D.las keep _ es ck h.hb h.hbL h.hbS h.rows rfl h.sec hgL hbL hLS hbS (lt_of_heap hh) hcl (fun i w' _ hk => hcall i w' hk)).mono fun e w' hg => ?_
    obtain ⟨v, rfl, rfl, he⟩ := hg
    exact ⟨_, rfl, rfl, h.settled keep he⟩

/-! ### Flush, Fail, Crash -/
theorem flush_failed {w : World} {b : Nat} {D : Dk} {F : Nat → Prop} (h : DiskAt w b D F) (hf : D.failed = true) :
    Calls Try.prog 38 #[.pointer (some ⟨b, 0, none⟩)] w (Gives (CodePost 2 (DiskPost w b D F))) := by
  obtain ⟨bL, bS, csl, h0, _, _, h3⟩ := h.head
  rw [hf] at h3
  have hp := Lib.hid (DiskPost.same h)
  clear h hf
  go_enter Try.func38, Try.ntmps38
  go_wp2
  go_ret
  exact ⟨_, rfl, rfl, hp.out⟩
theorem flush_ok {w : World} {b : Nat} {D : Dk} {F : Nat → Prop} (h : DiskAt w b D F) (hf : D.failed = false) (hcl : D.cache.length ≤ 1000000) :
    Calls Try.prog 38 #[.pointer (some ⟨b, 0, none⟩)] w (Gives (CodePost 0 (DiskPost w b (D.settle fun _ => true) F))) := by
  obtain ⟨bL, bS, csl, h0, _, _, h3⟩ := h.head
  rw [hf] at h3
  obtain ⟨bL', bS', csl', es, ck, hl⟩ := h.lies
  have HS := Lib.hid (settle_any_85 hl (fun _ => true) hcl (fun i w' _ => all_true i w'))
  clear h hf hl hcl
  go_enter Try.func38, Try.ntmps38
  go_wp2_with (go_at_call 84; refine HS.out.mono ?_; rintro e w' ⟨v, rfl, rfl, hp⟩; have HP := Lib.hid hp; clear hp)
  go_ret
  exact ⟨_, rfl, rfl, HP.out⟩
theorem flush_any {w : World} {b : Nat} {D : Dk} {F : Nat → Prop} (h : DiskAt w b D F) (hcl : D.cache.length ≤ 1000000) :
    Calls Try.prog 38 #[.pointer (some ⟨b, 0, none⟩)] w (Gives (CodePost D.fcode (DiskPost w b D.flush F))) := by
  unfold Dk.fcode Dk.flush
  cases hf : D.failed
  · simpa using flush_ok h hf hcl
  · simpa using flush_failed h hf

theorem fail_any {w : World} {b : Nat} {D : Dk} {F : Nat → Prop} (h : DiskAt w b D F) (hcl : D.cache.length ≤ 1000000) :
    Calls Try.prog 63 #[.pointer (some ⟨b, 0, none⟩)] w (Gives fun v w' => v = .tuple #[] ∧ DiskPost w b D.fail F w') := by
  obtain ⟨bL, bS, csl, es, ck, hl⟩ := h.lies
  have h3 := cell_at hl.hb 3 rfl
  have f3 := free_at hl.hb 3
  have hbLn : b ≠ bL := ne_of_elem hl.hb hl.hbL (by decide)
  have hbSn : b ≠ bS := ne_of_map hl.hb hl.hbS
  have hk : Keep (· = b) w (w.setCell ⟨b, 3, none⟩ (.bool true)) := Keep.setCell _ _ _ rfl
  have hb' := heap_setCell_same w b 3 _ _ (.bool true) hl.hb
  have hl' : Lies (w.setCell ⟨b, 3, none⟩ (.bool true)) b { D with failed := true } F bL bS csl es ck := by
    refine ⟨by simpa using hb', hk.at hl.hbL (Ne.symm hbLn), hk.at hl.hbS (Ne.symm hbSn), ownsRow_keep hl.own hk ?_, hl.hF, hl.pos, hl.le, hl.sec, hl.ent⟩
    intro x hx e
    obtain ⟨cs, hcs⟩ := own_elem hl.own hx
    exact ne_of_elem hcs hl.hb (by decide) e
  have HS := Lib.hid (settle_any_101 hl' (fun _ => false) hcl (fun i w' _ => all_false i w'))
  have hfe : ({ D with failed := true } : Dk).settle (fun _ => false) = D.fail := by simp [Dk.settle, Dk.fail, settled_none]
  rw [hfe] at HS
  have HK : Hid (Keep F w (w.setCell ⟨b, 3, none⟩ (.bool true))) := hk.mono fun x _ e => (hl.hF x).2 (.inl e)
  clear h hl hcl hl' hb' hk hbLn hbSn hfe
  go_enter Try.func63, Try.ntmps63
  go_wp2_with (go_at_call 84; refine HS.out.mono ?_; rintro e w' ⟨v, rfl, rfl, hp⟩; have HP := Lib.hid hp; clear hp)
  go_end0
  obtain ⟨F', p1, p2, p3⟩ := HP.out
  exact ⟨_, rfl, rfl, F', p1, HK.out.trans' p2, fun x hx => (p3 x hx).imp id (fun h => by simpa using h)⟩

theorem crash_any {w : World} {b : Nat} {D : Dk} {F : Nat → Prop} (h : DiskAt w b D F) (v : Value) (l : List Bool) (hv : BoolsAt w v l) (hvF : ∀ a n c, v = .slice (some a) n c → l ≠ [] → ¬ F a.block) (hcl : D.cache.length ≤ 1000000) :
    Calls Try.prog 39 #[.pointer (some ⟨b, 0, none⟩), v] w (Gives fun v w' => v = .tuple #[] ∧ DiskPost w b (D.crash l) F w') := by
  have hk : Keep F w (w.alloc (.cells #[v] 57)) := Keep.alloc _ _ _
  have hlt := h.lt
  have h' : DiskAt (w.alloc (.cells #[v] 57)) b D F := h.keep (Keep.alloc (fun _ => False) _ _) (fun _ _ h => h)
  obtain ⟨bL, bS, csl, es, ck, hl⟩ := h'.lies
  have hcall : ∀ (i : Nat) (w' : World), Keep (· = bL) (w.alloc (.cells #[v] 57)) w' → Calls Try.prog 86 #[.int .i64 i, .pointer (some ⟨w.heap.size, 0, none⟩)] w' fun e w'' => e = .returned (.bool (keepOf l i)) ∧ w' = w'' := by
    intro i w' hk'
    have hLlt : bL < w.heap.size := hlt _ ((hl.hF _).2 (.inr (.inl rfl)))
    have hnew := hk'.at (heap_alloc_new w (.cells #[v] 57)) (by intro e; omega)
    refine kept_any w' w.heap.size i v l (cell_at hnew 0 rfl) ?_
    obtain ⟨a, cap, rfl, h2, h3⟩ := hv
    refine ⟨a, cap, rfl, h2, fun hne => ?_⟩
    obtain ⟨bb, o, rfl, hr⟩ := h3 hne
    refine ⟨bb, o, rfl, fun j u hu => ?_⟩
    have hc := hr j u hu
    have hb : bb < w.heap.size := World.block_lt_of_cell? w _ hc
    have hnF : bb ≠ bL := fun e => hvF _ _ _ rfl hne (e ▸ (hl.hF _).2 (.inr (.inl rfl)))
    rw [World.cell?_of_block (w := w) ((hk'.block bb (by simp; omega) hnF).trans (Below.heap_alloc w _ bb hb))]
    exact hc
  have HS := Lib.hid (settle_any_86 hl w.heap.size (keepOf l) hcl hcall)
  have HK := Lib.hid hk
  obtain ⟨a, cap, rfl, _⟩ := hv
  clear h hvF hcl hk hlt h' hl hcall
  go_enter Try.func39, Try.ntmps39
  go_wp2_with (first | (go_at_call 84; go_must (refine HS.out.mono ?_); rintro e w' ⟨v, rfl, rfl, hp⟩; have HP := Lib.hid hp; clear hp))
  go_end0
  obtain ⟨F', p1, p2, p3⟩ := HP.out
  exact ⟨_, rfl, rfl, F', p1, HK.out.trans' p2, fun x hx => (p3 x hx).imp id (fun h => by simp at h; omega)⟩
end Go.Proofs.Ytghnbbpoaeheaaa

/- The disk's functions, walked: Pending, Image. -/
namespace Go.Proofs.Ytghnbbpoaeheaaa
open Go.RowKit

def ints (l : List Int) : List Value := l.map (Value.int .i64)
@[simp] theorem length_ints (l : List Int) : (ints l).length = l.length := by simp [ints]
/-- A list of ints in a row of its own. -/
def OwnI (w : World) (base : Nat) (v : Value) (l : List Int) : Prop := w.ownsRow base 3 1 v l.length (ints l)
def FreshI (w : World) (xs : List Int) (v : Value) (w' : World) : Prop := OwnI w' w.heap.size v xs ∧ Keep NoF w w'

theorem ownBlock_ge {w : World} {base e size n g : Nat} {v : Value} {xs : List Value} (h : w.ownsRow base e size v n xs) (hg : v.ownBlock = some g) : base ≤ g := (h.lt g hg).1

def Pends (w : World) (l : List Int) (v : Value) (wr : World) : Prop := OwnI wr w.heap.size v l ∧ Keep NoF w wr

set_option maxRecDepth 100000 in
set_option maxHeartbeats 1000000 in
theorem pending_row (w : World) (b bC cap : Nat) (cache : List (Nat × List Int)) (h1 : w.cell? ⟨b, 1, none⟩ = some (.slice (some ⟨bC, 0, none⟩) cache.length cap))
    (hent : ∀ j k d, cache[j]? = some (k, d) → w.rangeAt bC (j * 129) (entCells (k, d)) ∧ d.length = 128) (hcb : bC < w.heap.size) (hcl : cache.length ≤ 1000000) :
    Calls Try.prog 52 #[.pointer (some ⟨b, 0, none⟩)] w (Gives fun v w' => Pends w (cache.map fun e => (e.1 : Int)) v w') := by
  have HE := Lib.hid hent
  clear hent
  go_enter Try.func52, Try.ntmps52
  go_wp2_with fail
  go_loopw [3, 11] (fun v t wr => ∃ i : Nat, i ≤ cache.length ∧ t = .int .i64 i ∧ Pends w ((cache.take i).map fun e => (e.1 : Int)) v wr) (fun _ t _ => cache.length - (intOf t).toNat)
  case atStart => exact ⟨0, Nat.zero_le _, rfl, World.ownsRow_nil _ _ _ _, Keep.refl _ _⟩
  case round =>
    obtain ⟨i, hi, rfl, hp⟩ := hrel
    by_cases hlt : i < cache.length
    · obtain ⟨⟨k, d⟩, he⟩ : ∃ e, cache[i]? = some e := ⟨_, List.getElem?_eq_getElem hlt⟩
      obtain ⟨hr, hd⟩ := HE.out i k d he
      have hsz : (entCells (k, d)).length = 129 := by simp [entCells, hd]
      have hrr : wr.rangeAt bC (i * 129) (entCells (k, d)) := fun j u hu => by
        have := hr j u hu
        rw [World.cell?_of_block (w := w) (hp.2.block bC hcb (fun e => e))]; exact this
      have HR := Lib.hid hrr
      have HI := Lib.hid (show (Try.prog.info? 142).map (·.size) = some (entCells (k, d)).length by rw [size142, hsz])
      have HI2 := Lib.hid (show (Try.prog.info? 142).map (·.size) = some (entCells (k, d)).toArray.size by rw [size142, List.size_toArray, hsz])
      have HZ2 := Lib.hid (show (Zof 142).size = (entCells (k, d)).toArray.size by rw [zofs142, List.size_toArray, hsz])
      obtain ⟨z, hz, hzZ⟩ := zv142 wr
      have HZ := Lib.hid hz
      have HZZ := Lib.hid hzZ
      have HA : Hid ((entCells (k, d)).toArray.all (·.oneCell') = true) := all_oneCell_toArray (by intro v hv; rcases List.mem_cons.1 hv with rfl | hv; rfl; exact u8s_one d v hv)
      have HP := Lib.hid hp
      have HSN := Lib.hid (show cache.take (i + 1) = cache.take i ++ [(k, d)] by rw [List.take_add_one, he]; rfl)
      have hcw : (wr.alloc (.cells (entCells (k, d)).toArray 142)).cell? ⟨wr.heap.size, 0, none⟩ = some (.int .i64 k) := cell_at (heap_alloc_new wr _) 0 (by simp [entCells])
      have HOWN : Hid (((wr.alloc (.cells (entCells (k, d)).toArray 142)).alloc (.cells #[.int .i64 k] 3)).ownsRow w.heap.size 3 1 u3 ((cache.take i).map fun e => (e.1 : Int)).length (ints ((cache.take i).map fun e => (e.1 : Int)))) := World.ownsRow.alloc (World.ownsRow.alloc hp.1 _) _
      have HN : Hid (∀ j u, [Value.int .i64 k][j]? = some u → ((wr.alloc (.cells (entCells (k, d)).toArray 142)).alloc (.cells #[.int .i64 k] 3)).cell? ((⟨wr.heap.size + 1, 0, none⟩ : Addr).add j) = some u) := by
        have h := cell_one_new (wr.alloc (.cells (entCells (k, d)).toArray 142)) (.int .i64 k) 3
        rw [show (wr.alloc (.cells (entCells (k, d)).toArray 142)).heap.size = wr.heap.size + 1 by simp] at h
        exact h
      have hsize := hp.2.size
      have HLT := Lib.hid (show ((cache.take i).map fun e => (e.1 : Int)).length = i by simp; omega)
      have HSIZE := Lib.hid hsize
      clear hr hrr hsz hz hzZ hp hd he hsize
      go_wp2_with (first | ((with_reducible refine wpList_load_mid rfl 142 _ rfl bC (i*129) ?_ (entCells (k, d)) _ HR.out Try.underlying142 rfl HI.out ?_); (next => rfl)) | (with_reducible refine wpList_alloc_Z rfl 142 rfl z (Zof 142) HZ.out HZZ.out ?_) | ((with_reducible refine wpList_store_new rfl 142 _ _ rfl (Zof 142) (entCells (k, d)).toArray 142 ?_ ?_ HI2.out HZ2.out HA.out ?_); (next => rfl); (next => rfl)) | (at_builtin; go_must (refine wpList_app76 rfl _ _ rfl w.heap.size _ _ _ rfl HOWN.out ⟨wr.heap.size + 1, 0, none⟩ 1 1 [.int .i64 k] rfl rfl HN.out ?c3 ?c4 ?c5 ?_)))
      case c3 => intro u hu; simp at hu; subst hu; rfl
      case c4 => have := HLT.out; omega
      case c5 => have := HSIZE.out; simp; omega
      intro v' w' ho hg _
      have HO := Lib.hid ho
      have HG := Lib.hid hg
      clear ho hg
      go_wp2
      refine ⟨⟨i + 1, by omega, by go_num, ?_, ?_⟩, by simp [intOf]; omega⟩
      · have := HO.out
        unfold OwnI
        rw [HSN.out, List.map_append]
        simpa [ints, Nat.min_eq_left (Nat.le_of_lt hlt)] using this
      · refine HP.out.2.trans (G := fun x => u3.ownBlock = some x) ?_ fun x hx e => ?_
        · exact (Keep.alloc _ _ _).trans' ((Keep.alloc _ _ _).trans' (Keep.grown HG.out fun x hx => hx))
        · exact absurd (ownBlock_ge HP.out.1 e) (by omega)
    · have hie : i = cache.length := by omega
      subst hie
      have HP := Lib.hid hp
      clear hp h1
      go_wp2
      go_ret
      have := HP.out
      rw [List.take_length] at this
      exact ⟨_, rfl, this⟩
set_option maxHeartbeats 400000 in
theorem pending_nil (w : World) (b : Nat) (h1 : w.cell? ⟨b, 1, none⟩ = some (.slice none 0 0)) :
    Calls Try.prog 52 #[.pointer (some ⟨b, 0, none⟩)] w (Gives fun v w' => v = .slice none 0 0 ∧ w = w') := by
  go_enter Try.func52, Try.ntmps52
  go_wp2_with fail
  refine wp_loop_rounds 1 ?_
  rw [rounds_succ]
  go_wp2
  go_ret
  exact ⟨_, rfl, rfl, rfl⟩
theorem pending_any {w : World} {b : Nat} {D : Dk} {F : Nat → Prop} (h : DiskAt w b D F) (hcl : D.cache.length ≤ 1000000) :
    Calls Try.prog 52 #[.pointer (some ⟨b, 0, none⟩)] w (Gives (FreshI w D.pending)) := by
  obtain ⟨bL, bS, csl, es, ck, hl⟩ := h.lies
  rcases id hl.own.2 with ⟨rfl, h0⟩ | ⟨g, cap, cur, rfl, _, hh, _⟩
  · have hc : D.cache = [] := List.length_eq_zero_iff.1 h0
    refine (pending_nil w b (cell_at hl.hb 1 rfl)).mono fun e w' hg => ?_
    obtain ⟨v, rfl, rfl, rfl⟩ := hg
    refine ⟨_, rfl, ?_, Keep.refl _ _⟩
    unfold Dk.pending
    rw [hc]
    exact World.ownsRow_nil _ _ _ _
  · exact pending_row w b g cap D.cache (cell_at hl.hb 1 rfl) (fun j k d hj => ⟨(hl.rows j k d hj).1, (hl.rows j k d hj).2.2⟩) (lt_of_heap hh) hcl

/-! ### Image -/
set_option maxHeartbeats 400000 in
theorem image_failed (w : World) (b : Nat) (h3 : w.cell? ⟨b, 3, none⟩ = some (.bool true)) :
    Calls Try.prog 18 #[.pointer (some ⟨b, 0, none⟩)] w (Gives fun v w' => v = .slice none 0 0 ∧ w = w') := by
  go_enter Try.func18, Try.ntmps18
  go_wp2
  go_ret
  exact ⟨_, rfl, rfl, rfl⟩

def Imaged (w : World) (l : List Int) (v : Value) (wr : World) : Prop := OwnB wr w.heap.size v l ∧ Keep NoF w wr
theorem wpList_make22 {ops : Array Oper} {rest : List Oper} {o : Oper} {a : Act} {Q : Exit → Act → World → Prop} {w : World} (hg : o.guard = none) (l c : Operand) (hop : o.op = Op.makeSlice 22 l c)
    (C : Int) (n : Nat) (hl : a.eval l = .int .i64 0) (hc : a.eval c = .int .i64 C) (hC : C = (n : Int)) (b2 : n ≤ 1073741824)
    (hK : ∀ w', w'.ownsRow w.heap.size 5 1 (.slice (some ⟨w.heap.size, 0, none⟩) 0 n) 0 [] → w.grownBy w' none → wpList Try.prog ops Q rest (a.put o.dst (.slice (some ⟨w.heap.size, 0, none⟩) 0 n)) w') : wpList Try.prog ops Q (o :: rest) a w := by
  obtain ⟨i, hi, he⟩ := info_of i5
  simp only [Prod.mk.injEq] at he
  exact wpList_make_own w hg l c 22 hop w.heap.size 5 i (.int .u8 0) 1 Try.underlying22 hi he.1 he.2.1 .i64 .i64 C n hl hc hC (by rw [he.2.2]; omega) (by unfold maxLen; omega) (Nat.le_refl _) hK

set_option maxRecDepth 100000 in
set_option maxHeartbeats 1000000 in
theorem image_row (w : World) (b bL n : Nat) (las : List (List Int)) (h0 : w.cell? ⟨b, 0, none⟩ = some (.slice (some ⟨bL, 0, none⟩) n n)) (h3 : w.cell? ⟨b, 3, none⟩ = some (.bool false))
    (hrow : ∀ (i : Nat) (s : List Int), las[i]? = some s → w.rangeAt bL (i * 128) (u8s s)) (hsec : ∀ s ∈ las, s.length = 128) (hn : las.length = n) (hnn : n ≤ 8192) (hbL : bL < w.heap.size) (hb : b < w.heap.size) :
    Calls Try.prog 18 #[.pointer (some ⟨b, 0, none⟩)] w (Gives fun v w' => Imaged w las.flatten v w') := by
  have HROW := Lib.hid hrow
  have HSEC := Lib.hid hsec
  have HN := Lib.hid hn
  clear hrow hsec hn
  go_enter Try.func18, Try.ntmps18
  go_wp2_with (at_make; go_must (refine wpList_make22 rfl _ _ rfl _ (n * 128) rfl rfl (by simp) (by omega) ?_))
  intro w1 ho1 hg1
  have HK1 : Hid (Keep NoF w w1) := Keep.grown hg1 (fun _ h => by cases h)
  have k0 : w1.cell? ⟨b, 0, none⟩ = some (.slice (some ⟨bL, 0, none⟩) n n) := (World.cell?_of_block (w := w) (hg1.block b hb (by simp))).trans h0
  have HO1 := Lib.hid ho1
  clear ho1 hg1 h3
  go_wp2_with fail
  go_loopw [3, 21] (fun v t wr => ∃ i : Nat, i ≤ n ∧ t = .int .i64 i ∧ Imaged w (las.take i).flatten v wr) (fun _ t _ => n - (intOf t).toNat)
  case atStart => exact ⟨0, Nat.zero_le _, rfl, by simpa [OwnB, u8s] using HO1.out, HK1.out⟩
  case round =>
    obtain ⟨i, hi, rfl, hp⟩ := hrel
    by_cases hlt : i < n
    · obtain ⟨s, hs⟩ : ∃ s, las[i]? = some s := ⟨_, List.getElem?_eq_getElem (by rw [HN.out]; exact hlt)⟩
      have hs128 : s.length = 128 := HSEC.out s (List.mem_of_getElem? hs)
      have hr := HROW.out i s hs
      have hlen : ((las.take i).flatten).length = i * 128 := by
        have h := length_lasCells (las := las.take i) (fun s hs => HSEC.out s (List.mem_of_mem_take hs))
        rw [lasCells, length_u8s, List.length_take, HN.out, Nat.min_eq_left hi] at h
        exact h
      have kb : wr.cell? ⟨b, 0, none⟩ = some (.slice (some ⟨bL, 0, none⟩) n n) := (World.cell?_of_block (w := w) (hp.2.block b hb (fun e => e))).trans h0
      have HN2 : Hid (∀ j u, (u8s s)[j]? = some u → wr.cell? ((⟨bL, i * 128, none⟩ : Addr).add j) = some u) := fun j u hu => by
        rw [Addr.add_mid, World.cell?_of_block (w := w) (hp.2.block bL hbL (fun e => e))]; exact hr j u hu
      have HP := Lib.hid hp
      have hown := hp.1
      unfold OwnB at hown
      rw [hlen] at hown
      have HOWN := Lib.hid hown
      have HL := Lib.hid (show (u8s s).length = 128 by rw [length_u8s, hs128])
      have HSN := Lib.hid (show (las.take (i + 1)).flatten = (las.take i).flatten ++ s by rw [List.take_add_one, hs]; simp)
      have HLE := Lib.hid hlen
      have HS128 := Lib.hid hs128
      have HSZ := Lib.hid hp.2.size
      clear hr hp hown hlen hs hs128 h0 k0
      go_wp2_with (at_builtin; go_must (refine wpList_app22 rfl _ _ rfl w.heap.size _ (i * 128) _ rfl HOWN.out ⟨bL, i * 128, none⟩ 128 128 (u8s s) rfl HL.out HN2.out (u8s_one s) (by omega) HSZ.out ?_))
      intro v' w' ho hg _
      have HO := Lib.hid ho
      have HG := Lib.hid hg
      clear ho hg
      go_wp2
      refine ⟨⟨i + 1, by omega, by go_num, ?_, ?_⟩, by simp [intOf]; omega⟩
      · have := HO.out
        unfold OwnB
        rw [HSN.out, u8s_append, List.length_append, HLE.out, HS128.out]
        exact this
      · exact HP.out.2.trans (G := fun x => u3.ownBlock = some x) (Keep.grown HG.out fun x hx => hx) fun x hx e => absurd (ownBlock_ge HP.out.1 e) (by omega)
    · have hie : i = n := by omega
      subst hie
      have HP := Lib.hid hp
      clear hp h0 k0
      go_wp2
      go_ret
      have := HP.out
      rw [List.take_of_length_le (by rw [HN.out]; exact Nat.le_refl _)] at this
      exact ⟨_, rfl, this⟩

theorem image_any {w : World} {b : Nat} {D : Dk} {F : Nat → Prop} (h : DiskAt w b D F) :
    Calls Try.prog 18 #[.pointer (some ⟨b, 0, none⟩)] w (Gives (FreshB w D.image)) := by
  obtain ⟨bL, bS, csl, es, ck, hl⟩ := h.lies
  have h0 := cell_at hl.hb 0 rfl
  have h3 := cell_at hl.hb 3 rfl
  unfold Dk.image
  cases hf : D.failed
  · rw [hf] at h3
    exact image_row w b bL _ D.las h0 h3 (fun i s hs => h.sector h0 hs) hl.sec rfl hl.le (lt_of_heap hl.hbL) (lt_of_heap hl.hb)
  · rw [hf] at h3
    refine (image_failed w b h3).mono fun e w' hg => ?_
    obtain ⟨v, rfl, rfl, rfl⟩ := hg
    exact ⟨_, rfl, World.ownsRow_nil _ _ _ _, Keep.refl _ _⟩
end Go.Proofs.Ytghnbbpoaeheaaa

/- The disk's functions, walked: New. -/
namespace Go.Proofs.Ytghnbbpoaeheaaa
open Go.RowKit

theorem i102 : (Try.prog.info? 102).map (fun i => (i.zero.map (·.cells), i.size, i.bytes)) = some (some (Zof 102), 128, 128) := by kernel_rfl
theorem wpList_make96 {ops : Array Oper} {rest : List Oper} {o : Oper} {a : Act} {Q : Exit → Act → World → Prop} {w : World} (hg : o.guard = none) (l c : Operand) (hop : o.op = Op.makeSlice 96 l c)
    (C : Int) (n : Nat) (hl : a.eval l = .int .i64 C) (hc : a.eval c = .int .i64 C) (hC : C = (n : Int)) (b2 : n ≤ 8192)
    (hK : ∀ w', w'.ownsRow w.heap.size 102 128 (.slice (some ⟨w.heap.size, 0, none⟩) n n) n (List.replicate (n * 128) (.int .u8 0)) → w.grownBy w' none → wpList Try.prog ops Q rest (a.put o.dst (.slice (some ⟨w.heap.size, 0, none⟩) n n)) w') : wpList Try.prog ops Q (o :: rest) a w := by
  obtain ⟨i, hi, he⟩ := info_of i102
  simp only [Prod.mk.injEq] at he
  obtain ⟨he1, he2, he3⟩ := he
  obtain ⟨z, hz, hzc⟩ : ∃ z, i.zero = some z ∧ z.cells = Zof 102 := by
    cases hz : i.zero with
    | none => rw [hz] at he1; cases he1
    | some z => rw [hz] at he1; exact ⟨z, rfl, by simpa using he1⟩
  refine wpList_make_full w hg l c 96 hop w.heap.size 102 i z 128 Try.underlying96 hi hz he2 .i64 .i64 C C n hl hc hC hC (by rw [he3]; omega) (by unfold maxLen; omega) (Nat.le_refl _) ?_
  intro w' h1 h2
  refine hK w' ?_ h2
  have e : (madeCells z.cells (n * 128)).toList = List.replicate (n * 128) (.int .u8 0) := by
    rw [hzc, zof102]
    unfold madeCells
    rw [Array.toList_map, Array.toList_range]
    apply List.ext_getElem
    · simp
    · intro j h1 h2
      have hj : j % 128 < 128 := Nat.mod_lt _ (by decide)
      simp [hj]
  rwa [e] at h1

theorem new_bad (n : Int) (w : World) (h : n < 1 ∨ 8192 < n) : Calls Try.prog 35 #[.int .i64 n] w (Gives fun v w' => v = .tuple #[.pointer none, .int .u16 40] ∧ w = w') := by
  rcases h with h | h
  · go_enter Try.func35, Try.ntmps35
    go_wp2
    go_ret2
    exact ⟨_, rfl, rfl, rfl⟩
  · have h' : ¬ n < 1 := by omega
    go_enter Try.func35, Try.ntmps35
    go_wp2
    go_ret2
    exact ⟨_, rfl, rfl, rfl⟩

/-- A new disk: its head's block, its own blocks, all of them new. -/
def NewDisk (w : World) (D : Dk) (v : Value) (w' : World) : Prop :=
  ∃ b F, v = .tuple #[.pointer (some ⟨b, 0, none⟩), .int .u16 0] ∧ DiskAt w' b D F ∧ Keep NoF w w' ∧ ∀ x, F x → w.heap.size ≤ x

theorem run_build100 (x y : Value) (hx : x.oneCell' = true) (hy : y.oneCell' = true) (w : World) : (Instr.build 100 #[(0, x), (2, y)]).run Try.prog w = .ok (.agg #[x, .slice none 0 0, y, .bool false]) w := by
  cases x <;> simp [Value.oneCell'] at hx <;> cases y <;> simp [Value.oneCell'] at hy <;> kernel_rfl

set_option maxRecDepth 100000 in
set_option maxHeartbeats 1000000 in
theorem new_ok (n : Nat) (w : World) (h1 : 1 ≤ n) (h2 : n ≤ 8192) : Calls Try.prog 35 #[.int .i64 n] w (Gives (NewDisk w (Dk.new n))) := by
  have hmm := @run_makeMap Try.prog
  have hn1 : (1 : Int) ≤ n := by omega
  have hn2 : (n : Int) ≤ 8192 := by omega
  go_enter Try.func35, Try.ntmps35
  go_wp2_with (at_make; go_must (refine wpList_make96 rfl _ _ rfl _ n rfl rfl rfl h2 ?_); intro w1 ho hg; have HO := Lib.hid ho; have HG := Lib.hid hg; clear ho hg)
  go_ret2
  have ho := HO.out
  have hk1 : Keep NoF w w1 := Keep.grown HG.out (fun _ h => by cases h)
  have hsz := hk1.size
  rcases ho.2 with ⟨h, _⟩ | ⟨g, cap, cur, hv, hg, hh, hc, hm, hs, ht⟩
  · cases h
  obtain ⟨rfl, rfl⟩ : g = w.heap.size ∧ cap = n := by simp at hv; exact ⟨hv.1.symm, hv.2.symm⟩
  have hg1 : w.heap.size < w1.heap.size := lt_of_heap hh
  have hcur : cur = (lasCells (List.replicate cap (List.replicate 128 0))).toArray := by
    have e : lasCells (List.replicate cap (List.replicate 128 0)) = List.replicate (cap * 128) (.int .u8 0) := by
      unfold lasCells u8s
      rw [List.flatten_replicate_replicate, List.map_replicate]
    rw [e, ← ht, ← hs, List.take_of_length_le (by simp)]
  refine ⟨_, rfl, w1.heap.size + 1, fun x => x = w1.heap.size + 1 ∨ x = w.heap.size ∨ x = w1.heap.size, rfl, ⟨w.heap.size, w1.heap.size, .slice none 0 0, #[], 0, ?_, ?_, ?_, SeenOk.nil, World.ownsRow_nil _ _ _ _, ?_, Dk.ok_new h1 h2⟩, hk1.trans' ((Keep.alloc _ _ _).trans' (Keep.alloc _ _ _)), ?_⟩
  · have := heap_alloc_new (w1.alloc (.map #[] 0)) (.cells #[.slice (some ⟨w.heap.size, 0, none⟩) cap cap, .slice none 0 0, .map (some w1.heap.size), .bool false] 100)
    rw [show (w1.alloc (.map #[] 0)).heap.size = w1.heap.size + 1 by simp] at this
    simpa [Dk.new] using this
  · rw [Below.heap_alloc _ _ _ (by simp; omega), Below.heap_alloc _ _ _ hg1, hh, hcur]
    rfl
  · rw [Below.heap_alloc _ _ _ (by simp)]
    exact heap_alloc_new w1 _
  · intro x; simp [Value.ownBlock]
  · rintro x (rfl | rfl | rfl) <;> omega

theorem new_any (n : Int) (w : World) : Calls Try.prog 35 #[.int .i64 n] w (Gives fun v w' => if 1 ≤ n ∧ n ≤ 8192 then NewDisk w (Dk.new n.toNat) v w' else v = .tuple #[.pointer none, .int .u16 40] ∧ w = w') := by
  by_cases h : 1 ≤ n ∧ n ≤ 8192
  · obtain ⟨k, rfl⟩ := Int.eq_ofNat_of_zero_le (show 0 ≤ n by omega)
    simp only [if_pos h]
    exact new_ok k w (by omega) (by omega)
  · simp only [if_neg h]
    exact new_bad n w (by omega)
end Go.Proofs.Ytghnbbpoaeheaaa
