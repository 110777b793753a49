/- The book's numbers: lists in rows of their own, written over, grown. -/
import Derived.Test.YtghnbbpoaeheaaaDL4
import Derived.Test.YtghnbbpoaeheaaaDL19
import Derived.ArgAppend
import Derived.OwnWalk
import Derived.IntWalk
namespace Go.Proofs.Ytghnbbpoaeheaaa
open Go.RowKit

section
variable {ops : Array Oper} {rest : List Oper} {o : Oper} {a : Act} {w : World} {Q : Exit → Act → World → Prop}
/-- One byte more onto a list of the call's own: in its row, or in a new one, and then the old one stands. -/
theorem wpList_app76x (hgd : o.guard = none) (s x : Operand) (ho : o.op = .call { callee := .builtin .append, args := #[s, x], argTypes := #[76, 76] })
    (v : Value) (n : Nat) (xs : List Value) (hs : a.eval s = v) (hown : w.ownsRow 0 3 1 v n xs)
    (ad : Addr) (c : Nat) (u : Value) (hx : a.eval x = .slice (some ad) 1 c) (hnews : ∀ j y, [u][j]? = some y → w.cell? (ad.add j) = some y) (h1 : u.oneCell' = true) (hb : n ≤ 1073741823)
    (h : ∀ v' w', w'.ownsRow 0 3 1 v' (n + 1) (xs ++ [u]) → ((∃ g cap, v = .slice (some ⟨g, 0, none⟩) n cap ∧ v' = .slice (some ⟨g, 0, none⟩) (n + 1) cap ∧ w.grownBy w' (some g)) ∨ (w'.ownsRow w.heap.size 3 1 v' (n + 1) (xs ++ [u]) ∧ w.grownBy w' none)) → wpList Try.prog ops Q rest (a.put o.dst v') w') : wpList Try.prog ops Q (o :: rest) a w := by
  obtain ⟨i, hi, he⟩ := info_of i3
  simp only [Prod.mk.injEq] at he
  have hu : ∀ y ∈ [u], y.oneCell' = true := fun y hy => (by
    obtain rfl : y = u := by simpa using hy
    exact h1)
  have base0 : ∀ {w' : World} {v' : Value}, w'.ownsRow w.heap.size 3 1 v' (n + 1) (xs ++ [u]) → w'.ownsRow 0 3 1 v' (n + 1) (xs ++ [u]) := fun hw => by
    obtain ⟨k1, k2⟩ := hw
    refine ⟨k1, ?_⟩
    rcases k2 with k2 | ⟨g, cap, cur, hv, hg, r⟩
    · exact .inl k2
    · exact .inr ⟨g, cap, cur, hv, Nat.zero_le _, r⟩
  rcases hown.2 with ⟨rfl, h0⟩ | ⟨g, cap, cur, rfl, hg, hh, hc, hm, hcs, ht⟩
  · have hxs : xs = [] := List.eq_nil_of_length_eq_zero (by rw [hown.1, h0])
    exact wpList_append_grows w hgd s x 76 ho 3 i (.int .i64 0) 1 8 Try.underlying76 hi he.1 he.2.1 he.2.2 rfl (by decide) none n 0 xs (by rw [h0]; exact hs) (fun _ => ⟨h0, rfl⟩) (by rw [hown.1]) (fun b hb => by cases hb) ad 1 c [u] hx rfl hnews hu (by omega) (by unfold maxLen; omega) (by omega) fun v' w' r1 r2 => h v' w' (base0 r1) (.inr ⟨r1, r2⟩)
  · by_cases hroom : n + 1 ≤ cap
    · exact wpList_append_fits w hgd s x 76 ho 0 3 i 1 Try.underlying76 hi he.2.1 g n cap xs hs hown ad 1 c [u] hx rfl hnews hu hroom fun w' r1 r2 => h _ w' r1 (.inl ⟨g, cap, rfl, rfl, r2⟩)
    · exact wpList_append_grows w hgd s x 76 ho 3 i (.int .i64 0) 1 8 Try.underlying76 hi he.1 he.2.1 he.2.2 rfl (by decide) (some ⟨g, 0, none⟩) n cap xs hs (fun h => by cases h) (by rw [hown.1]) (fun b hb => (by
      obtain rfl := Option.some.inj hb
      exact hown.cells rfl)) ad 1 c [u] hx rfl hnews hu (by omega) (by unfold maxLen; omega) (by omega) fun v' w' r1 r2 => h v' w' (base0 r1) (.inr ⟨r1, r2⟩)
end

/-- The byte that the book writes at place k of list i. -/
def mki (i k : Nat) : Int := (i : Int) * 1000 + (k : Int)
def tli (i k : Nat) : Int := (-1 - (i : Int)) * 1000 + (k : Int)
/-- The lists of the book: their row, their bytes; nothing else has turned. -/
structure OwnJ (w : World) (n : Nat) (V : Nat → Value) (N : Nat → Nat) (lv : Value) (C : Nat → Nat → Int) (wr : World) : Prop where
  row : wr.ownsRow 0 76 1 lv n ((List.range n).map V)
  own : ∀ j, j < n → OwnI wr 0 (V j) ((List.range (N j)).map (C j))
  keep : Keep (fun x => ∃ j, j < n ∧ (V j).ownBlock = some x) w wr
theorem ints_append' (a b : List Int) : ints (a ++ b) = ints a ++ ints b := by simp [ints]
theorem own_setI {w : World} {base g n cap k : Nat} {xs : List Value} {u : Value} (h : w.ownsRow base 3 1 (.slice (some ⟨g, 0, none⟩) n cap) n xs) : (w.setCell ⟨g, k, none⟩ u).ownsRow base 3 1 (.slice (some ⟨g, 0, none⟩) n cap) n (xs.set k u) := by
  refine ⟨by rw [List.length_set]; exact h.1, ?_⟩
  rcases h.2 with ⟨h0, _⟩ | ⟨g', cap', cur, hv, hg, hh, hc, hm, hs, ht⟩
  · cases h0
  · simp only [Value.slice.injEq, Option.some.injEq, Addr.mk.injEq, and_true] at hv
    obtain ⟨rfl, -, rfl⟩ := hv
    refine .inr ⟨g, cap, _, rfl, hg, heap_setCell_same w g k _ _ u hh, hc, hm, by simpa using hs, ?_⟩
    rw [Array.toList_setIfInBounds, ← ht, List.take_set]
theorem range_updI {C : Nat → Nat → Int} {i k n : Nat} {u : Int} : (ints ((List.range n).map (C i))).set k (.int .i64 u) = ints ((List.range n).map (upd C i k u i)) := by
  apply List.ext_getElem?
  intro t
  rw [List.getElem?_set]
  simp only [ints, List.getElem?_map, List.length_map, List.length_range]
  by_cases e : k = t
  · subst e
    rw [if_pos rfl]
    by_cases h : k < n
    · rw [if_pos h]; simp [h, upd]
    · rw [if_neg h]; simp [h]
  · rw [if_neg e]
    by_cases h : t < n
    · simp [h, upd, Ne.symm e]
    · simp [h]
section
variable {w wr : World} {n : Nat} {V : Nat → Value} {N : Nat → Nat} {lv : Value} {C : Nat → Nat → Int}
theorem OwnJ.at (h : OwnJ w n V N lv C wr) (hA : ApartV n V) (hn : ∀ j, j < n → ∀ x, (V j).ownBlock = some x → x < w.heap.size) {i : Nat} (hi : i < n) :
    ∃ gl capl x c, lv = .slice (some ⟨gl, 0, none⟩) n capl ∧ wr.cell? ⟨gl, i, none⟩ = some (.slice x (N i) c) ∧ V i = .slice x (N i) c ∧
      ∀ k, k < N i → ∃ g, x = some ⟨g, 0, none⟩ ∧ wr.cell? ⟨g, k, none⟩ = some (.int .i64 (C i k)) ∧ wr.frozen? ⟨g, k, none⟩ = false ∧ g < wr.heap.size ∧ ∀ u, OwnJ w n V N lv (upd C i k u) (wr.setCell ⟨g, k, none⟩ (.int .i64 u)) := by
  have ho := h.own i hi
  obtain ⟨x, c, hV⟩ := own_form ho
  simp only [List.length_map, List.length_range] at hV
  rcases h.row.2 with ⟨_, h0⟩ | ⟨gl, capl, curl, hv, hgl, hhl, hcl, hml, hsl, htl⟩
  · omega
  · refine ⟨gl, capl, x, c, hv, ?_, hV, fun k hk => ?_⟩
    · refine cell_at hhl i ?_
      have : (curl.toList.take (n * 1))[i]? = some (V i) := by rw [htl]; simp [hi]
      rw [List.getElem?_take, if_pos (by omega)] at this
      rw [← hV]
      simpa using this
    · rcases ho.2 with ⟨_, h0⟩ | ⟨g, cap, cur, hv2, hg, hh, hc, hm, hs, ht⟩
      · simp at h0; omega
      · rw [hV] at hv2
        simp only [Value.slice.injEq] at hv2
        obtain ⟨rfl, hlen, rfl⟩ := hv2
        have hcell : cur[k]? = some (.int .i64 (C i k)) := by
          have : (cur.toList.take (((List.range (N i)).map (C i)).length * 1))[k]? = some (.int .i64 (C i k)) := by rw [ht]; simp [ints, hk]
          rw [List.getElem?_take, if_pos (by simp; omega)] at this
          simpa using this
        refine ⟨g, rfl, cell_at hh k hcell, free_at hh k, lt_of_heap hh, fun u => ?_⟩
        have hk3 : Keep (· = g) wr (wr.setCell ⟨g, k, none⟩ (.int .i64 u)) := Keep.setCell (F := (· = g)) wr ⟨g, k, none⟩ (.int .i64 u) rfl
        have hb : (V i).ownBlock = some g := by rw [hV]; rfl
        refine ⟨ownsRow_keep h.row hk3 (fun y hy e => ?_), fun j hj => ?_, h.keep.trans' (hk3.mono fun y _ e => ⟨i, hi, by rw [(show y = g from e)]; exact hb⟩)⟩
        · obtain ⟨cs, hcs⟩ := own_elem h.row hy
          exact ne_of_elem hcs hh (by decide) e
        · by_cases e : j = i
          · subst e
            have ho' := ho
            rw [hV] at ho'
            unfold OwnI at ho'
            simp only [List.length_map, List.length_range] at ho'
            have := own_setI (k := k) (u := .int .i64 u) ho'
            rw [range_updI] at this
            rw [hV]
            unfold OwnI
            simpa using this
          · have e2 : (List.range (N j)).map (upd C i k u j) = (List.range (N j)).map (C j) := by
              refine List.map_congr_left fun t _ => ?_
              unfold upd
              rw [if_neg (fun h => e h.1)]
            rw [e2]
            exact ownsRow_keep (h.own j hj) hk3 (fun y hy ey => hA i j g hi hj (Ne.symm e) hb (by rw [← (show y = g from ey)]; exact hy))
end

/-- How far the first loop has come: the marks of the lists before i, and k of list i. -/
def Pi1 (w : World) (n : Nat) (V : Nat → Value) (N : Nat → Nat) (lv : Value) (i k : Nat) (wr : World) : Prop := ∃ C, OwnJ w n V N lv C wr ∧ ∀ j t, (j < i ∨ (j = i ∧ t < k)) → C j t = mki j t
theorem pi1_next {w wr : World} {n : Nat} {V : Nat → Value} {N : Nat → Nat} {lv : Value} {i : Nat} (h : Pi1 w n V N lv i (N i) wr) : Pi1 w n V N lv (i + 1) 0 wr := by
  obtain ⟨C, h1, h2⟩ := h
  refine ⟨fun j t => if j < i ∨ (j = i ∧ t < N i) then C j t else if j = i then mki i t else C j t, ⟨h1.row, fun j hj => ?_, h1.keep⟩, fun j t ht => ?_⟩
  · have e2 : (List.range (N j)).map (fun t => if j < i ∨ (j = i ∧ t < N i) then C j t else if j = i then mki i t else C j t) = (List.range (N j)).map (C j) := by
      refine List.map_congr_left fun t ht => ?_
      have ht := List.mem_range.1 ht
      split
      · rfl
      · rename_i hno
        split
        · rename_i e; subst e; exact absurd (.inr ⟨rfl, ht⟩) hno
        · rfl
    rw [e2]
    exact h1.own j hj
  · dsimp only
    split
    · rename_i h; exact h2 j t h
    · rename_i hno
      rcases ht with ht | ⟨_, ht⟩
      · by_cases e : j = i
        · rw [if_pos e, e]
        · exact absurd (.inl (by omega)) hno
      · omega
theorem pi1_all {w wr : World} {n : Nat} {V : Nat → Value} {N : Nat → Nat} {lv : Value} (h : Pi1 w n V N lv n 0 wr) : OwnJ w n V N lv mki wr := by
  obtain ⟨C, h1, h2⟩ := h
  refine ⟨h1.row, fun j hj => ?_, h1.keep⟩
  have e2 : (List.range (N j)).map (mki j) = (List.range (N j)).map (C j) := List.map_congr_left fun t _ => (h2 j t (.inl hj)).symm
  rw [e2]
  exact h1.own j hj
theorem pi1_step {w wr : World} {n : Nat} {V : Nat → Value} {N : Nat → Nat} {lv : Value} (hA : ApartV n V) (hn : ∀ j, j < n → ∀ x, (V j).ownBlock = some x → x < w.heap.size) {i k : Nat} (hi : i < n) (h : Pi1 w n V N lv i k wr) :
    ∃ gl capl x c, lv = .slice (some ⟨gl, 0, none⟩) n capl ∧ wr.cell? ⟨gl, i, none⟩ = some (.slice x (N i) c) ∧ (k < N i → ∃ g u, x = some ⟨g, 0, none⟩ ∧ wr.cell? ⟨g, k, none⟩ = some (.int .i64 u) ∧ wr.frozen? ⟨g, k, none⟩ = false ∧ g < wr.heap.size ∧ Pi1 w n V N lv i (k + 1) (wr.setCell ⟨g, k, none⟩ (.int .i64 (mki i k)))) := by
  obtain ⟨C, h1, h2⟩ := h
  obtain ⟨gl, capl, x, c, e1, e2, e3, e4⟩ := h1.at hA hn hi
  refine ⟨gl, capl, x, c, e1, e2, fun hk => ?_⟩
  obtain ⟨g, rfl, a1, a2, a3, a4⟩ := e4 k hk
  refine ⟨g, _, rfl, a1, a2, a3, _, a4 (mki i k), fun j t ht => ?_⟩
  unfold upd
  split
  · rename_i e; rw [e.1, e.2]
  · rename_i hno
    refine h2 j t ?_
    rcases ht with ht | ⟨rfl, ht⟩
    · exact .inl ht
    · refine .inr ⟨rfl, ?_⟩
      by_cases e : t = k
      · exact absurd ⟨rfl, e⟩ hno
      · omega

/-- Behind the second loop: what has grown out of list j. -/
def fulli (N : Nat → Nat) (j : Nat) : List Int := (List.range (N j)).map (mki j) ++ (List.range 16).map (tli j)
def Pi2 (w : World) (n : Nat) (V : Nat → Value) (N : Nat → Nat) (lv : Value) (i : Nat) (gv : Value) (wr : World) : Prop :=
  OwnJ w n V N lv mki wr ∧ ∃ Y : Nat → Value, wr.ownsRow w.heap.size 76 1 gv i ((List.range i).map Y) ∧ ∀ j, j < i → OwnI wr 0 (Y j) (fulli N j) ∧ ∀ x, (Y j).ownBlock = some x → (V j).ownBlock = some x ∨ w.heap.size ≤ x
/-- Within a round of it. -/
def Pi2in (V : Nat → Value) (N : Nat → Nat) (i : Nat) (wi : World) (k : Nat) (xv : Value) (wr : World) : Prop :=
  OwnI wr 0 xv ((List.range (N i)).map (mki i) ++ (List.range k).map (tli i)) ∧ (∀ x, xv.ownBlock = some x → (V i).ownBlock = some x ∨ wi.heap.size ≤ x) ∧ OwnI wr 0 (V i) ((List.range (N i)).map (mki i)) ∧ Keep (fun b => (V i).ownBlock = some b ∨ wi.heap.size ≤ b) wi wr
theorem pi2_start {w wi : World} {n : Nat} {V : Nat → Value} {N : Nat → Nat} {lv gv : Value} {i : Nat} (h : Pi2 w n V N lv i gv wi) (hi : i < n) : Pi2in V N i wi 0 (V i) wi :=
  ⟨by simpa using h.1.own i hi, fun x hx => .inl hx, h.1.own i hi, Keep.refl _ _⟩
theorem pi2_step {wi wr w' : World} {V : Nat → Value} {N : Nat → Nat} {i k : Nat} {xv v' : Value} (h : Pi2in V N i wi k xv wr)
    (ho : w'.ownsRow 0 3 1 v' (N i + k + 1) (ints ((List.range (N i)).map (mki i) ++ (List.range k).map (tli i)) ++ [.int .i64 (tli i k)]))
    (hal : (∃ g cap, xv = .slice (some ⟨g, 0, none⟩) (N i + k) cap ∧ v' = .slice (some ⟨g, 0, none⟩) (N i + k + 1) cap ∧ (wr.alloc (.cells #[.int .i64 (tli i k)] 3)).grownBy w' (some g)) ∨
      (w'.ownsRow (wr.alloc (.cells #[.int .i64 (tli i k)] 3)).heap.size 3 1 v' (N i + k + 1) (ints ((List.range (N i)).map (mki i) ++ (List.range k).map (tli i)) ++ [.int .i64 (tli i k)]) ∧ (wr.alloc (.cells #[.int .i64 (tli i k)] 3)).grownBy w' none)) : Pi2in V N i wi (k + 1) v' w' := by
  obtain ⟨h1, h2, h3, h4⟩ := h
  have hka : Keep NoF wr (wr.alloc (.cells #[.int .i64 (tli i k)] 3)) := Keep.alloc _ _ _
  have hlist : ints ((List.range (N i)).map (mki i) ++ (List.range k).map (tli i)) ++ [.int .i64 (tli i k)] = ints ((List.range (N i)).map (mki i) ++ (List.range (k + 1)).map (tli i)) := by
    rw [List.range_succ, List.map_append, ← List.append_assoc, ints_append' _ ((List.map (tli i) [k]))]
    rfl
  rw [hlist] at ho
  have hown : OwnI w' 0 v' ((List.range (N i)).map (mki i) ++ (List.range (k + 1)).map (tli i)) := by
    unfold OwnI
    rw [show ((List.range (N i)).map (mki i) ++ (List.range (k + 1)).map (tli i)).length = N i + k + 1 by simp; omega]
    exact ho
  have hsz := h4.size
  rcases hal with ⟨g, cap, rfl, rfl, hg⟩ | ⟨hf, hg⟩
  · have hkg : Keep (fun x => some g = some x) (wr.alloc (.cells #[.int .i64 (tli i k)] 3)) w' := Keep.grown hg fun x hx => hx
    have hblk := h2 g rfl
    refine ⟨hown, fun x hx => by simp [Value.ownBlock] at hx; subst hx; exact hblk, ?_, (h4.trans' (hka.mono fun _ _ h => h.elim)).trans' (hkg.mono fun x _ e => by obtain rfl := Option.some.inj e; exact hblk)⟩
    by_cases e : (V i).ownBlock = some g
    · obtain ⟨xa, c, hV⟩ := own_form h3
      simp only [List.length_map, List.length_range] at hV
      rcases h3.2 with ⟨_, h0⟩ | ⟨g1, cap1, cur1, hv1, _, hh1, hc1, hm1, hs1, ht1⟩
      · rename_i hnil
        rw [hnil] at e
        cases e
      · rcases h1.2 with ⟨h0, _⟩ | ⟨g2, cap2, cur2, hv2, _, hh2, hc2, hm2, hs2, ht2⟩
        · cases h0
        · rcases hown.2 with ⟨h0, _⟩ | ⟨g3, cap3, cur3, hv3, _, hh3, hc3, hm3, hs3, ht3⟩
          · cases h0
          · rw [hv1] at e
            obtain rfl : g1 = g := by simpa [Value.ownBlock] using e
            simp only [Value.slice.injEq, Option.some.injEq, Addr.mk.injEq, and_true] at hv2 hv3
            obtain ⟨rfl, -, rfl⟩ := hv2
            obtain ⟨rfl, -, rfl⟩ := hv3
            rw [hh1] at hh2
            simp at hh2
            subst hh2
            refine ⟨by simp [ints], .inr ⟨g1, cap1, cur3, hv1, Nat.zero_le _, hh3, hc1, hm1, by omega, ?_⟩⟩
            have := congrArg (fun l => l.take (N i)) ht3
            simp only [List.take_take] at this
            rw [Nat.min_eq_left (by simp), ints_append', List.take_left' (by simp)] at this
            simpa using this
    · exact ownsRow_keep (ownsRow_keep h3 hka (fun _ _ h => h)) hkg (fun x hx ex => e (by obtain rfl := Option.some.inj ex; exact hx))
  · have hkg : Keep NoF (wr.alloc (.cells #[.int .i64 (tli i k)] 3)) w' := Keep.grown hg fun x hx => by cases hx
    refine ⟨hown, fun x hx => .inr ?_, ownsRow_keep (ownsRow_keep h3 hka (fun _ _ h => h)) hkg (fun _ _ h => h), (h4.trans' (hka.mono fun _ _ h => h.elim)).trans' (hkg.mono fun _ _ h => h.elim)⟩
    have := (hf.lt x hx).1
    have := hka.size
    omega
theorem pi2_end {w wi wr w' : World} {n : Nat} {V : Nat → Value} {N : Nat → Nat} {lv gv gv' : Value} {i : Nat} {xv : Value} (hA : ApartV n V) (hn : ∀ j, j < n → ∀ x, (V j).ownBlock = some x → x < w.heap.size) (hlv : ∀ x, lv.ownBlock = some x → x < w.heap.size) (hi : i < n) (h : Pi2 w n V N lv i gv wi) (h2 : Pi2in V N i wi 16 xv wr) :
    ((wr.alloc (.cells #[xv] 76)).ownsRow w.heap.size 76 1 gv i ((List.range i).map (Classical.choose h.2)) ∧ w.heap.size ≤ (wr.alloc (.cells #[xv] 76)).heap.size) ∧ (w'.ownsRow w.heap.size 76 1 gv' (i + 1) ((List.range i).map (Classical.choose h.2) ++ [xv]) → (wr.alloc (.cells #[xv] 76)).grownBy w' gv.ownBlock → Pi2 w n V N lv (i + 1) gv' w') := by
  have hY := Classical.choose_spec h.2
  generalize Classical.choose h.2 = Y at *
  obtain ⟨h1, _⟩ := h
  obtain ⟨hrow, hall⟩ := hY
  obtain ⟨k1, k2, k3, k4⟩ := h2
  have hszi := h1.keep.size
  have hka : Keep NoF wr (wr.alloc (.cells #[xv] 76)) := Keep.alloc _ _ _
  have hk : Keep (fun b => (V i).ownBlock = some b ∨ wi.heap.size ≤ b) wi (wr.alloc (.cells #[xv] 76)) := k4.trans' (hka.mono fun _ _ h => h.elim)
  have hVi := h1.own i hi
  have rowkeep : ∀ {base m : Nat} {v : Value} {xs : List Value}, wi.ownsRow base 76 1 v m xs → (wr.alloc (.cells #[xv] 76)).ownsRow base 76 1 v m xs := fun hr => ownsRow_keep hr hk (fun x hx e => by
    rcases e with e | e
    · obtain ⟨cs, hcs⟩ := own_elem hr hx
      obtain ⟨cs2, hcs2⟩ := own_elem hVi e
      exact ne_of_elem hcs hcs2 (by decide) rfl
    · have := (hr.lt x hx).2; omega)
  have hgrow := rowkeep hrow
  refine ⟨⟨hgrow, by have := hk.size; omega⟩, fun ho hg => ?_⟩
  have hkg : Keep (fun x => gv.ownBlock = some x) (wr.alloc (.cells #[xv] 76)) w' := Keep.grown hg fun x hx => hx
  have keep3 : ∀ {base m : Nat} {v : Value} {xs : List Value}, (wr.alloc (.cells #[xv] 76)).ownsRow base 3 1 v m xs → w'.ownsRow base 3 1 v m xs := fun hr => ownsRow_keep hr hkg (fun x hx e => by
    obtain ⟨cs, hcs⟩ := own_elem hr hx
    obtain ⟨cs2, hcs2⟩ := own_elem hgrow e
    exact ne_of_elem hcs hcs2 (by decide) rfl)
  have hold : ∀ j, j < n → j ≠ i → ∀ x, (V j).ownBlock = some x → ¬ ((V i).ownBlock = some x ∨ wi.heap.size ≤ x) := fun j hj hji x hx e => by
    rcases e with e | e
    · exact hA j i x hj hi hji hx e
    · have := hn j hj x hx; omega
  refine ⟨⟨ownsRow_keep (rowkeep h1.row) hkg (fun x hx e => ?_), fun j hj => ?_, ?_⟩, put Y i xv, ?_, fun j hj => ?_⟩
  · have := hlv x hx
    have := (hgrow.lt x e).1
    omega
  · by_cases e : j = i
    · subst e
      exact keep3 (ownsRow_keep k3 hka (fun _ _ h => h))
    · exact keep3 (ownsRow_keep (h1.own j hj) hk (hold j hj e))
  · refine (h1.keep.trans hk (fun x hx e => ?_)).trans hkg (fun x hx e => ?_)
    · rcases e with e | e
      · exact ⟨i, hi, e⟩
      · omega
    · have := (hgrow.lt x e).1; omega
  · rw [← range_put]
    exact ho
  · by_cases e : j = i
    · subst e
      rw [put_same]
      refine ⟨keep3 (ownsRow_keep k1 hka (fun _ _ h => h)), fun x hx => ?_⟩
      rcases k2 x hx with h | h
      · exact .inl h
      · exact .inr (by omega)
    · rw [put_other _ _ e]
      obtain ⟨a1, a2⟩ := hall j (by omega)
      refine ⟨keep3 (ownsRow_keep a1 hk (fun x hx e2 => ?_)), a2⟩
      rcases e2 with e2 | e2
      · rcases a2 x hx with h | h
        · exact hA j i x (by omega) hi e h e2
        · have := hn i hi x e2; omega
      · have := (World.ownsRow.lt a1 x hx).2; omega

/-- What the last loop reads of list i. -/
theorem pi3_read {w wr : World} {n : Nat} {V : Nat → Value} {N : Nat → Nat} {lv gv : Value} (hA : ApartV n V) (hn : ∀ j, j < n → ∀ x, (V j).ownBlock = some x → x < w.heap.size) (h : Pi2 w n V N lv n gv wr) {i : Nat} (hi : i < n) :
    ∃ gl capl x c gg capg gy cy, lv = .slice (some ⟨gl, 0, none⟩) n capl ∧ gv = .slice (some ⟨gg, 0, none⟩) n capg ∧ (wr.cell? ⟨gl, i, none⟩ = some (.slice x (N i) c) ∧ wr.cell? ⟨gg, i, none⟩ = some (.slice (some ⟨gy, 0, none⟩) (N i + 16) cy)) ∧
      (∀ k, k < N i → ∃ g, x = some ⟨g, 0, none⟩ ∧ wr.cell? ⟨g, k, none⟩ = some (.int .i64 (mki i k)) ∧ wr.cell? ⟨gy, k, none⟩ = some (.int .i64 (mki i k))) ∧ ∀ k, k < 16 → wr.cell? ⟨gy, N i + k, none⟩ = some (.int .i64 (tli i k)) := by
  obtain ⟨h1, Y, hrow, hall⟩ := h
  obtain ⟨gl, capl, x, c, e1, e2, e3, e4⟩ := h1.at hA hn hi
  obtain ⟨a1, a2⟩ := hall i hi
  rcases hrow.2 with ⟨_, h0⟩ | ⟨gg, capg, curg, hv, hgl, hhl, hcl, hml, hsl, htl⟩
  · omega
  · obtain ⟨ya, yc, hyv⟩ := own_form a1
    rcases a1.2 with ⟨_, h0⟩ | ⟨gy, capy, cury, hvy, _, hhy, hcy, hmy, hsy, hty⟩
    · simp [fulli] at h0
    · have hfl : (fulli N i).length = N i + 16 := by simp [fulli]
      rw [hfl] at hvy hty
      have hcg : curg[i]? = some (Y i) := by
        have : (curg.toList.take (n * 1))[i]? = some (Y i) := by rw [htl]; simp [hi]
        rw [List.getElem?_take, if_pos (by omega)] at this
        simpa using this
      have hread : ∀ t v, (ints (fulli N i))[t]? = some v → wr.cell? ⟨gy, t, none⟩ = some v := fun t v hv => by
        refine cell_at hhy t ?_
        have ht : t < N i + 16 := by have := (List.getElem?_eq_some_iff.1 hv).1; simpa [hfl] using this
        rw [← hty, List.getElem?_take, if_pos (by omega)] at hv
        simpa using hv
      refine ⟨gl, capl, x, c, gg, capg, gy, capy, e1, hv, ⟨e2, ?_⟩, fun k hk => ?_, fun k hk => ?_⟩
      · rw [← hvy]; exact cell_at hhl i hcg
      · obtain ⟨g, b1, b2, _⟩ := e4 k hk
        refine ⟨g, b1, b2, hread k _ ?_⟩
        unfold fulli
        rw [ints_append', List.getElem?_append_left (by simpa using hk)]
        simp [ints, hk]
      · refine hread _ _ ?_
        unfold fulli
        rw [ints_append', List.getElem?_append_right (by simp)]
        simp [ints, hk]

set_option maxRecDepth 100000 in
set_option maxHeartbeats 4000000 in
theorem ownInts_any {w : World} {n : Nat} {V : Nat → Value} {N : Nat → Nat} {lv : Value} {C : Nat → Nat → Int} (h : OwnJ w n V N lv C w) (hA : ApartV n V) (hn : ∀ j, j < n → ∀ x, (V j).ownBlock = some x → x < w.heap.size) (hn41 : n ≤ 100) (hN : ∀ j, j < n → N j ≤ 8000000) :
    Calls Try.prog 70 #[lv] w (Gives fun v w' => v = .bool true ∧ Keep (fun x => ∃ j, j < n ∧ (V j).ownBlock = some x) w w') := by
  have H0 : Hid (Pi1 w n V N lv 0 0 w) := ⟨C, h, fun j t ht => by omega⟩
  have HS : Hid (∀ i k wr, i < n → Pi1 w n V N lv i k wr → ∃ gl capl x c, lv = .slice (some ⟨gl, 0, none⟩) n capl ∧ wr.cell? ⟨gl, i, none⟩ = some (.slice x (N i) c) ∧ (k < N i → ∃ g u, x = some ⟨g, 0, none⟩ ∧ wr.cell? ⟨g, k, none⟩ = some (.int .i64 u) ∧ wr.frozen? ⟨g, k, none⟩ = false ∧ g < wr.heap.size ∧ Pi1 w n V N lv i (k + 1) (wr.setCell ⟨g, k, none⟩ (.int .i64 (mki i k))))) := fun i k wr hi hp => pi1_step hA hn hi hp
  have HNX : Hid (∀ i wr, Pi1 w n V N lv i (N i) wr → Pi1 w n V N lv (i + 1) 0 wr) := fun i wr hp => pi1_next hp
  have HAL : Hid (∀ wr, Pi1 w n V N lv n 0 wr → OwnJ w n V N lv mki wr) := fun wr hp => pi1_all hp
  have HN := Lib.hid hN
  have HAP := Lib.hid hA
  have HNB := Lib.hid hn
  have HLV : Hid (∀ x, lv.ownBlock = some x → x < w.heap.size) := fun x hx => (h.row.lt x hx).2
  obtain ⟨la, lc, rfl⟩ := own_form h.row
  clear h hN hA hn
  go_enter Try.func70, Try.ntmps70
  go_wp2
  go_loopw [3] (fun t wr => ∃ i : Nat, i ≤ n ∧ t = .int .i64 i ∧ Pi1 w n V N (.slice la n lc) i 0 wr) (fun t _ => n - (intOf t).toNat)
  case atStart => exact ⟨0, Nat.zero_le _, rfl, H0.out⟩
  case round =>
    obtain ⟨i, hi, rfl, hp⟩ := hrel
    clear H0
    by_cases hlt : i < n
    · have hNi := HN.out i hlt
      have HP := Lib.hid hp
      clear hp
      go_wp2
      go_loopw [4] (fun t wr => ∃ k : Nat, k ≤ N i ∧ t = .int .i64 k ∧ Pi1 w n V N (.slice la n lc) i k wr) (fun t _ => N i - (intOf t).toNat)
      case atStart => exact ⟨0, Nat.zero_le _, rfl, HP.out⟩
      case round =>
        obtain ⟨k, hk, rfl, hp⟩ := hrel
        obtain ⟨gl, capl, x, c, hv, e2, e4⟩ := HS.out i k wr hlt hp
        simp only [Value.slice.injEq, true_and] at hv
        obtain ⟨rfl, rfl⟩ := hv
        by_cases hkl : k < N i
        · obtain ⟨g, u, rfl, a1, a2, a3, a4⟩ := e4 hkl
          have HM := Lib.hid a4
          have hw1 : IntKind.i64.wrap ((i : Int) * 1000) = i * 1000 := IntWalk.i64_in _ (by omega)
          have hw2 : IntKind.i64.wrap ((i : Int) * 1000 + k) = i * 1000 + k := IntWalk.i64_in _ (by omega)
          unfold mki at HM
          clear hp a4 e4 HP
          go_wp2
          exact ⟨⟨k + 1, by omega, by go_num, HM.out⟩, by simp [intOf]; omega⟩
        · obtain rfl : k = N i := by omega
          have HM := Lib.hid (HNX.out _ _ hp)
          clear hp e4 HP
          go_wp2
          exact ⟨⟨i + 1, by omega, by go_num, HM.out⟩, by simp [intOf]; omega⟩
    · obtain rfl : n = i := by omega
      have HO := Lib.hid (HAL.out _ hp)
      clear hp HS HNX HAL
      go_wp2
      go_loopw [5, 6] (fun g t wr => ∃ i : Nat, i ≤ n ∧ t = .int .i64 i ∧ Pi2 w n V N (.slice la n lc) i g wr) (fun _ t _ => n - (intOf t).toNat)
      case atStart => exact ⟨0, Nat.zero_le _, rfl, HO.out, fun _ => undef, World.ownsRow_nil _ _ _ _, fun j hj => by omega⟩
      case round =>
        obtain ⟨i, hi, rfl, hp⟩ := hrel
        clear HO
        by_cases hlt : i < n
        · have hNi := HN.out i hlt
          obtain ⟨gl, capl, x, c, hv, e2, e3, -⟩ := hp.1.at HAP.out HNB.out hlt
          simp only [Value.slice.injEq, true_and] at hv
          obtain ⟨rfl, rfl⟩ := hv
          have HIN : Hid (Pi2in V N i wr 0 (.slice x (N i) c) wr) := by rw [← e3]; exact pi2_start hp hlt
          have HP := Lib.hid hp
          clear hp e3
          generalize wr = wi at *
          go_wp2
          go_loopw [7, 8] (fun xv t wr => ∃ k : Nat, k ≤ 16 ∧ t = .int .i64 k ∧ Pi2in V N i wi k xv wr) (fun _ t _ => 16 - (intOf t).toNat)
          case atStart => exact ⟨0, by omega, rfl, HIN.out⟩
          case round =>
            obtain ⟨k, hk, rfl, hin⟩ := hrel
            clear HIN
            by_cases hkl : k < 16
            · have hw0 : IntKind.i64.wrap (-1 - (i : Int)) = -1 - i := IntWalk.i64_in _ (by omega)
              have hw1 : IntKind.i64.wrap ((-1 - (i : Int)) * 1000) = (-1 - i) * 1000 := IntWalk.i64_in _ (by omega)
              have hw2 : IntKind.i64.wrap ((-1 - (i : Int)) * 1000 + k) = (-1 - i) * 1000 + k := IntWalk.i64_in _ (by omega)
              have HST := Lib.hid (fun v' w' => @pi2_step wi wr w' V N i k u7 v' hin)
              have HOW : Hid ((wr.alloc (.cells #[.int .i64 (tli i k)] 3)).ownsRow 0 3 1 u7 (N i + k) (ints ((List.range (N i)).map (mki i) ++ (List.range k).map (tli i)))) := by
                have := World.ownsRow.alloc hin.1 (.cells #[.int .i64 (tli i k)] 3)
                rw [show ((List.range (N i)).map (mki i) ++ (List.range k).map (tli i)).length = N i + k by simp] at this
                exact this
              have HNW : Hid (∀ j y, [Value.int .i64 (tli i k)][j]? = some y → (wr.alloc (.cells #[.int .i64 (tli i k)] 3)).cell? ((⟨wr.heap.size, 0, none⟩ : Addr).add j) = some y) := cell_one_new wr (.int .i64 (tli i k)) 3
              generalize ints ((List.range (N i)).map (mki i) ++ (List.range k).map (tli i)) = xs at *
              unfold tli at HST HOW HNW
              clear hin
              go_wp2_with (at_builtin; go_must (refine wpList_app76x rfl _ _ rfl _ (N i + k) xs rfl HOW.out ⟨wr.heap.size, 0, none⟩ 1 _ rfl HNW.out rfl (by omega) ?_); intro v' w' ho hal; have HV := Lib.hid (HST.out v' w' ho hal); clear ho hal)
              exact ⟨⟨k + 1, by omega, by go_num, HV.out⟩, by simp [intOf]; omega⟩
            · obtain rfl : k = 16 := by omega
              obtain ⟨xa, xc, hxv⟩ := own_form hin.1
              rw [show ((List.range (N i)).map (mki i) ++ (List.range 16).map (tli i)).length = N i + 16 by simp] at hxv
              subst hxv
              have HEN := Lib.hid (fun w' gv' => pi2_end (w' := w') (gv' := gv') HAP.out HNB.out HLV.out hlt HP.out hin)
              have HOW := Lib.hid ((HEN.out wr u5).1.1)
              have HSZ := (HEN.out wr u5).1.2
              have HNW : Hid (∀ j y, [Value.slice xa (N i + 16) xc][j]? = some y → (wr.alloc (.cells #[.slice xa (N i + 16) xc] 76)).cell? ((⟨wr.heap.size, 0, none⟩ : Addr).add j) = some y) := cell_one_new wr (.slice xa (N i + 16) xc) 76
              have HU : Hid (∀ u ∈ [Value.slice xa (N i + 16) xc], u.oneCell' = true) := fun u hu => by
                obtain rfl : u = .slice xa (N i + 16) xc := by simpa using hu
                rfl
              have HEN2 : Hid (∀ w' gv', _ → _ → Pi2 w n V N _ (i + 1) gv' w') := fun w' gv' => (HEN.out w' gv').2
              generalize (List.range i).map (Classical.choose HP.out.2) = ys at HOW HEN2
              clear hin HEN HP
              go_wp2_with (at_builtin; go_must (refine wpList_app42 rfl _ _ rfl w.heap.size _ i ys rfl HOW.out ⟨wr.heap.size, 0, none⟩ 1 [.slice xa (N i + 16) xc] rfl rfl HNW.out HU.out (by omega) HSZ ?_); intro v' w' ho hg _; have HV := Lib.hid (HEN2.out w' v' ho hg); clear ho hg)
              exact ⟨⟨i + 1, by omega, by go_num, HV.out⟩, by simp [intOf]; omega⟩
        · obtain rfl : n = i := by omega
          have HR : Hid (∀ i, i < n → ∃ gl capl x c gg capg gy cy, _ ∧ _ ∧ _ ∧ _ ∧ _) := fun i hi => pi3_read HAP.out HNB.out hp hi
          have HK := Lib.hid hp.1.keep
          clear hp
          generalize wr = w3 at *
          go_wp2
          go_loopw [9] (fun t wr => wr = w3 ∧ ∃ i : Nat, i ≤ n ∧ t = .int .i64 i) (fun t _ => n - (intOf t).toNat)
          case atStart => exact ⟨rfl, 0, Nat.zero_le _, rfl⟩
          case round =>
            obtain ⟨rfl, i, hi, rfl⟩ := hrel
            by_cases hlt : i < n
            · have hNi := HN.out i hlt
              have HRi := HR.out i hlt
              obtain ⟨gl, capl, x, c, gg, capg, gy, cy, hv, hg, ⟨c1, c2⟩, hx, hy⟩ := HRi
              simp only [Value.slice.injEq, true_and] at hv
              obtain ⟨rfl, rfl⟩ := hv
              subst hg
              have HX := Lib.hid hx
              have HY := Lib.hid hy
              clear hx hy HR HK
              go_wp2
              go_loopw [11] (fun t w' => w' = wr ∧ ∃ k : Nat, k ≤ N i ∧ t = .int .i64 k) (fun t _ => N i - (intOf t).toNat)
              case atStart => exact ⟨rfl, 0, Nat.zero_le _, rfl⟩
              case round =>
                obtain ⟨rfl, k, hk, rfl⟩ := hrel
                by_cases hkl : k < N i
                · obtain ⟨g, rfl, d1, d2⟩ := HX.out k hkl
                  have hw1 : IntKind.i64.wrap ((i : Int) * 1000) = i * 1000 := IntWalk.i64_in _ (by omega)
                  have hw2 : IntKind.i64.wrap ((i : Int) * 1000 + k) = i * 1000 + k := IntWalk.i64_in _ (by omega)
                  unfold mki at d1 d2
                  go_wp2
                  exact ⟨⟨by first | trivial | rfl, k + 1, by omega, by go_num⟩, by simp [intOf]; omega⟩
                · obtain rfl : k = N i := by omega
                  go_wp2
                  go_loopw [12] (fun t w' => w' = wr ∧ ∃ k : Nat, k ≤ 16 ∧ t = .int .i64 k) (fun t _ => 16 - (intOf t).toNat)
                  case atStart => exact ⟨rfl, 0, Nat.zero_le _, rfl⟩
                  case round =>
                    obtain ⟨rfl, k, hk, rfl⟩ := hrel
                    by_cases hkl : k < 16
                    · have d1 := HY.out k hkl
                      have hw0 : IntKind.i64.wrap (-1 - (i : Int)) = -1 - i := IntWalk.i64_in _ (by omega)
                      have hw1 : IntKind.i64.wrap ((-1 - (i : Int)) * 1000) = (-1 - i) * 1000 := IntWalk.i64_in _ (by omega)
                      have hw2 : IntKind.i64.wrap ((-1 - (i : Int)) * 1000 + k) = (-1 - i) * 1000 + k := IntWalk.i64_in _ (by omega)
                      unfold tli at d1
                      go_wp2
                      exact ⟨⟨by first | trivial | rfl, k + 1, by omega, by go_num⟩, by simp [intOf]; omega⟩
                    · obtain rfl : k = 16 := by omega
                      go_wp2
                      exact ⟨⟨by first | trivial | rfl, i + 1, by omega, by go_num⟩, by simp [intOf]; omega⟩
            · obtain rfl : n = i := by omega
              go_wp2
              refine ⟨rfl, .bool true, ?_, _, rfl, rfl, HK.out⟩
              first | (go_ret; done) | (simp [results, Try.f70, Sem.run]; done) | (go_wp2; done) | (unfold results; rfl)
end Go.Proofs.Ytghnbbpoaeheaaa

/- The book's word that every list is its own: walked. -/
namespace Go.Proofs.Ytghnbbpoaeheaaa
open Go.RowKit

section
variable {w : World} {bk : Nat} {qb qi : List (Value × List Int)} {F : Nat → Prop} {bv iv : Value}
def vOf (q : List (Value × List Int)) (j : Nat) : Value := (q.getD j (undef, [])).1
def lOf (q : List (Value × List Int)) (j : Nat) : List Int := (q.getD j (undef, [])).2
theorem vOf_list (q : List (Value × List Int)) : q.map (·.1) = (List.range q.length).map (vOf q) := by
  apply List.ext_getElem?
  intro t
  by_cases h : t < q.length
  · simp [h, vOf]
  · simp [h]
theorem lOf_list (q : List (Value × List Int)) (j : Nat) : lOf q j = (List.range (lOf q j).length).map fun k => (lOf q j).getD k 0 := by
  apply List.ext_getElem?
  intro t
  by_cases h : t < (lOf q j).length
  · simp [h]
  · simp [h]
theorem of_mem {q : List (Value × List Int)} {j : Nat} (h : j < q.length) : (vOf q j, lOf q j) ∈ q := by
  have : (vOf q j, lOf q j) = q[j] := by simp [vOf, lOf, h]
  rw [this]
  exact List.getElem_mem h
theorem parted_apart {q : List (Value × List Int)} (h : Parted q) : ApartV q.length (vOf q) := by
  intro i j x hi hj hij hx hy
  unfold Parted at h
  rw [List.pairwise_iff_getElem] at h
  have e1 : vOf q i = q[i].1 := by simp [vOf, hi]
  have e2 : vOf q j = q[j].1 := by simp [vOf, hj]
  rw [e1] at hx
  rw [e2] at hy
  rcases Nat.lt_or_gt_of_ne hij with h1 | h1
  · exact h i j hi hj h1 x hx hy
  · exact h j i hj hi h1 x hy hx
theorem BookLies.own1 (h : BookLies w bk qb qi F bv iv) : Own1 w qb.length (vOf qb) (fun j => (lOf qb j).length) bv (fun j k => (lOf qb j).getD k 0) w :=
  ⟨by rw [← vOf_list]; exact h.rb, fun j hj => by
    have := h.db _ (of_mem hj)
    rw [← lOf_list]
    exact this, Keep.refl _ _⟩
theorem BookLies.ownJ (h : BookLies w bk qb qi F bv iv) : OwnJ w qi.length (vOf qi) (fun j => (lOf qi j).length) iv (fun j k => (lOf qi j).getD k 0) w :=
  ⟨by rw [← vOf_list]; exact h.ri, fun j hj => by
    have := h.di _ (of_mem hj)
    rw [← lOf_list]
    exact this, Keep.refl _ _⟩
theorem BookLies.own_ints (h : BookLies w bk qb qi F bv iv) {w1 : World} (hk : Keep (fun x => ∃ j, j < qb.length ∧ (vOf qb j).ownBlock = some x) w w1) :
    w1.heap[bk]? = some (.cells #[bv, .slice none 0 0, iv, .slice none 0 0, .slice none 0 0, .slice none 0 0, .slice none 0 0, .slice none 0 0, .slice none 0 0, .slice none 0 0, .slice none 0 0, .slice none 0 0] 53 (0, 0)) ∧
    OwnJ w1 qi.length (vOf qi) (fun j => (lOf qi j).length) iv (fun j k => (lOf qi j).getD k 0) w1 := by
  have h5 : ∀ x, (∃ j, j < qb.length ∧ (vOf qb j).ownBlock = some x) → ∃ cs, w.heap[x]? = some (.cells cs 5 (0, 0)) := fun x ⟨j, hj, hx⟩ => own_elem (h.db _ (of_mem hj)) hx
  refine ⟨hk.at h.hb (fun hx => ?_), ⟨vOf_list qi ▸ ownsRow_keep h.ri hk (fun x hx e => ?_), fun j hj => ?_, Keep.refl _ _⟩⟩
  · obtain ⟨cs, hcs⟩ := h5 _ hx
    rw [h.hb] at hcs
    simp at hcs
  · obtain ⟨cs, hcs⟩ := h5 _ e
    obtain ⟨cs2, hcs2⟩ := own_elem h.ri hx
    exact ne_of_elem hcs hcs2 (by decide) rfl
  · have := h.di _ (of_mem hj)
    rw [← lOf_list]
    exact ownsRow_keep this hk (fun x hx e => by
      obtain ⟨cs, hcs⟩ := h5 _ e
      obtain ⟨cs2, hcs2⟩ := own_elem this hx
      exact ne_of_elem hcs hcs2 (by decide) rfl)
theorem BookLies.own_end (h : BookLies w bk qb qi F bv iv) {w1 w2 : World} (hk : Keep (fun x => ∃ j, j < qb.length ∧ (vOf qb j).ownBlock = some x) w w1) (hk2 : Keep (fun x => ∃ j, j < qi.length ∧ (vOf qi j).ownBlock = some x) w1 w2) :
    w2.heap[bk]? = some (.cells #[bv, .slice none 0 0, iv, .slice none 0 0, .slice none 0 0, .slice none 0 0, .slice none 0 0, .slice none 0 0, .slice none 0 0, .slice none 0 0, .slice none 0 0, .slice none 0 0] 53 (0, 0)) ∧ Keep F w w2 := by
  have h3 : ∀ x, (∃ j, j < qi.length ∧ (vOf qi j).ownBlock = some x) → ∃ cs, w.heap[x]? = some (.cells cs 3 (0, 0)) := fun x ⟨j, hj, hx⟩ => own_elem (h.di _ (of_mem hj)) hx
  refine ⟨hk2.at (h.own_ints hk).1 (fun hx => ?_), (hk.mono fun x _ hx => ?_).trans' (hk2.mono fun x _ hx => ?_)⟩
  · obtain ⟨cs, hcs⟩ := h3 _ hx
    rw [h.hb] at hcs
    simp at hcs
  · obtain ⟨j, hj, e⟩ := hx
    exact (h.hF x).2 (.inr (.inr (.inr (.inl ⟨_, of_mem hj, e⟩))))
  · obtain ⟨j, hj, e⟩ := hx
    exact (h.hF x).2 (.inr (.inr (.inr (.inr ⟨_, of_mem hj, e⟩))))
end

section
variable {w : World} {bk : Nat} {qb qi : List (Value × List Int)} {F : Nat → Prop}
set_option maxRecDepth 100000 in
set_option maxHeartbeats 2000000 in
theorem book_own_any (h : BookAt w bk qb qi F) (hqb : qb.length ≤ 100) (hqi : qi.length ≤ 100) (lb : ∀ e ∈ qb, e.2.length ≤ 8000000) (li : ∀ e ∈ qi, e.2.length ≤ 8000000) :
    Calls Try.prog 22 #[.pointer (some ⟨bk, 0, none⟩)] w (Gives fun v w' => v = .bool true ∧ Keep F w w') := by
  obtain ⟨bv, iv, h⟩ := h
  have C1 := Lib.hid (ownBytes_any h.own1 (parted_apart h.pb) (fun j hj x hx => (World.ownsRow.lt (h.db _ (of_mem hj)) x hx).2) hqb (fun j hj => lb _ (of_mem hj)))
  have C2 : Hid (∀ w1, Keep (fun x => ∃ j, j < qb.length ∧ (vOf qb j).ownBlock = some x) w w1 → Calls Try.prog 70 #[iv] w1 (Gives fun v w' => v = .bool true ∧ Keep (fun x => ∃ j, j < qi.length ∧ (vOf qi j).ownBlock = some x) w1 w')) :=
    fun w1 hk => ownInts_any (h.own_ints hk).2 (parted_apart h.pi) (fun j hj x hx => (World.ownsRow.lt ((h.own_ints hk).2.own j hj) x hx).2) hqi (fun j hj => li _ (of_mem hj))
  have HB1 : Hid (∀ w1, Keep (fun x => ∃ j, j < qb.length ∧ (vOf qb j).ownBlock = some x) w w1 → w1.heap[bk]? = some (.cells #[bv, .slice none 0 0, iv, .slice none 0 0, .slice none 0 0, .slice none 0 0, .slice none 0 0, .slice none 0 0, .slice none 0 0, .slice none 0 0, .slice none 0 0, .slice none 0 0] 53 (0, 0))) := fun w1 hk => (h.own_ints hk).1
  have HB2 : Hid (∀ w1 w2, Keep (fun x => ∃ j, j < qb.length ∧ (vOf qb j).ownBlock = some x) w w1 → Keep (fun x => ∃ j, j < qi.length ∧ (vOf qi j).ownBlock = some x) w1 w2 → w2.heap[bk]? = some (.cells #[bv, .slice none 0 0, iv, .slice none 0 0, .slice none 0 0, .slice none 0 0, .slice none 0 0, .slice none 0 0, .slice none 0 0, .slice none 0 0, .slice none 0 0, .slice none 0 0] 53 (0, 0)) ∧ Keep F w w2) := fun w1 w2 hk hk2 => h.own_end hk hk2
  have b0 := cell_at h.hb 0 rfl
  have b1 := cell_at h.hb 1 rfl
  obtain ⟨ba, bc, rfl⟩ := own_form h.rb
  obtain ⟨ia, ic, rfl⟩ := own_form h.ri
  clear h lb li
  go_enter Try.func22, Try.ntmps22
  go_wp2_with (first
    | (go_at_call 68; go_must (refine (C1.out).mono ?_); rintro e w1 ⟨v, rfl, rfl, k⟩; have HK1 := Lib.hid k; have hb1 := HB1.out w1 k; have b2 := cell_at hb1 1 rfl; have b3 := cell_at hb1 2 rfl; have HC2 := Lib.hid (C2.out w1 k); clear k hb1)
    | (go_at_call 69; go_must (refine (own_none_69 _).mono ?_); rintro e w1' ⟨rfl, rfl⟩)
    | (go_at_call 70; go_must (refine (HC2.out).mono ?_); rintro e w2 ⟨v, rfl, rfl, k⟩; have HK2 := Lib.hid (HB2.out _ _ HK1.out k).2; have hb2 := (HB2.out _ _ HK1.out k).1; have d3 := cell_at hb2 3 rfl; have d4 := cell_at hb2 4 rfl; have d5 := cell_at hb2 5 rfl; have d6 := cell_at hb2 6 rfl; have d7 := cell_at hb2 7 rfl; have HHB := Lib.hid hb2; clear k hb2)
    | (go_at_call 71; go_must (refine (own_none_71 _).mono ?_); rintro e w1' ⟨rfl, rfl⟩)
    | (go_at_call 72; go_must (refine (own_none_72 _).mono ?_); rintro e w1' ⟨rfl, rfl⟩)
    | (go_at_call 73; go_must (refine (own_none_73 _).mono ?_); rintro e w1' ⟨rfl, rfl⟩)
    | (go_at_call 74; go_must (refine (own_none_74 _).mono ?_); rintro e w1' ⟨rfl, rfl⟩)
    | (go_at_call 75; go_must (refine (own_none_75 _).mono ?_); rintro e w3 ⟨v, rfl, rfl, k⟩; have hb3 := k.at HHB.out (fun h => h); have e8 := cell_at hb3 8 rfl; have e9 := cell_at hb3 9 rfl; have e10 := cell_at hb3 10 rfl; have e11 := cell_at hb3 11 rfl; have HK3 := Lib.hid (HK2.out.trans' (k.mono (G := F) fun _ _ h => h.elim)); clear k hb3)
    | (go_at_call 76; go_must (refine (own_none_76 _).mono ?_); rintro e w1' ⟨rfl, rfl⟩)
    | (go_at_call 77; go_must (refine (own_none_77 _).mono ?_); rintro e w1' ⟨rfl, rfl⟩)
    | (go_at_call 78; go_must (refine (own_none_78 _).mono ?_); rintro e w1' ⟨rfl, rfl⟩)
    | (go_at_call 79; go_must (refine (own_none_79 _).mono ?_); rintro e w1' ⟨rfl, rfl⟩))
  go_ret
  exact ⟨_, rfl, rfl, HK3.out⟩
end
end Go.Proofs.Ytghnbbpoaeheaaa
