/- Two bays and an operation's copy beside each other. -/
import Derived.Test.YtghnbbpoaeheaaaKnown
namespace Go.Proofs.Ytghnbbpoaeheaaa
open Go.RowKit

def pt (a b : Nat) : Nat → Nat := fun i => match i with | 0 => a | _ => b
def two (A B : By) : Nat → By := fun i => match i with | 0 => A | _ => B
section
variable {W w : World} {a b : Nat} {A B A' B' : By} {L : List (Value × List Int)}
theorem Many.two0 (h : Many W w 2 (pt a b) (put (two A B) 0 A') L) : Many W w 2 (pt a b) (two A' B) L := by
  obtain ⟨F, h1, h2, h3, h4, h5⟩ := h
  refine ⟨F, fun i hi => ?_, h2, h3, h4, h5⟩
  have := h1 i hi
  rcases (by omega : i = 0 ∨ i = 1) with rfl | rfl <;> exact this
theorem Many.two1 (h : Many W w 2 (pt a b) (put (two A B) 1 B') L) : Many W w 2 (pt a b) (two A B') L := by
  obtain ⟨F, h1, h2, h3, h4, h5⟩ := h
  refine ⟨F, fun i hi => ?_, h2, h3, h4, h5⟩
  have := h1 i hi
  rcases (by omega : i = 0 ∨ i = 1) with rfl | rfl <;> exact this
theorem Many.two01 {p : Nat → Nat} {Bs : Nat → By} (h : Many W w (1 + 1) (put (put p 0 a) 1 b) (put (put Bs 0 A) 1 B) L) : Many W w 2 (pt a b) (two A B) L := by
  obtain ⟨F, h1, h2, h3, h4, h5⟩ := h
  refine ⟨F, fun i hi => ?_, h2, h3, h4, h5⟩
  have := h1 i hi
  rcases (by omega : i = 0 ∨ i = 1) with rfl | rfl <;> exact this

/-- Two bays, the bytes that the call holds, and its copy of an operation. -/
def Wt (W : World) (a b : Nat) (A B : By) (g : Nat) (d : OpD) (L : List (Value × List Int)) (w : World) : Prop :=
  Many W w 2 (pt a b) (two A B) L ∧ w.heap[g]? = some (.cells (opCells d).toArray 69 (0, 0))
variable {g : Nat} {d : OpD}
theorem Wt.cells (h : Wt W a b A B g d L w) : (w.cell? ⟨g, 0, none⟩ = some (.int .i64 d.kind) ∧ w.cell? ⟨g, 1, none⟩ = some (.int .i64 d.slot) ∧ w.cell? ⟨g, 2, none⟩ = some (.int .i64 d.n)) ∧ w.cell? ⟨g, 3, none⟩ = some d.bv ∧ w.cell? ⟨g, 4, none⟩ = some d.kv ∧ g < w.heap.size :=
  ⟨⟨cell_at h.2 0 rfl, cell_at h.2 1 rfl, cell_at h.2 2 rfl⟩, cell_at h.2 3 rfl, cell_at h.2 4 rfl, lt_of_heap h.2⟩
theorem wt_start (h : Many W w 2 (pt a b) (two A B) L) (d : OpD) : Wt W a b A B w.heap.size d L (w.alloc (.cells (opCells d).toArray 69)) :=
  ⟨h.quiet (Keep.alloc _ _ _), heap_alloc_new w _⟩
theorem wt_start0 (h : Many W w 2 (pt a b) (two A B) L) (d : OpD) : Wt W a b A B w.heap.size { d with slot := 0 } L ((w.alloc (.cells (opCells d).toArray 69)).setCell ⟨w.heap.size, 1, none⟩ (.int .i64 0)) := by
  have h1 := wt_start h d
  have hk : Keep (· = w.heap.size) (w.alloc (.cells (opCells d).toArray 69)) _ := Keep.setCell (F := (· = w.heap.size)) _ ⟨w.heap.size, 1, none⟩ (.int .i64 0) rfl
  refine ⟨h1.1.own_cell h1.2 (by decide) (by decide) h.old.size hk, ?_⟩
  have := heap_setCell_same _ w.heap.size 1 _ _ (.int .i64 0) h1.2
  simpa [opCells] using this
/-- What plain hands back beside two bays. -/
def WtRead (W : World) (a b : Nat) (A B : By) (g : Nat) (d : OpD) (L : List (Value × List Int)) (c : Int) (l : List Int) (v : Value) (w' : World) : Prop :=
  ∃ x cap, v = .tuple #[.slice x l.length cap, .int .u16 c] ∧ Wt W a b A B g d ((.slice x l.length cap, l) :: L) w'
theorem Wt.plainA (h : Wt W a b A B g d L w) (hs : A.Small 1000000) (hd : OpAt W d) : Calls Try.prog 28 #[.pointer (some ⟨a, 0, none⟩), .agg (opCells d).toArray] w (Gives (WtRead W a b (A.plain d) B g d L (A.plainc d) (A.plainl d))) :=
  Gives.imp (Many.plain h.1 0 (by omega) hs d hd) fun v w' hg => by
    obtain ⟨s, h1, h2, h3⟩ := hg
    have ho := h2.own List.mem_cons_self
    obtain ⟨x, cap, rfl⟩ := own_form ho
    exact ⟨x, cap, h1, h2.two0, h3 _ _ _ _ h.2 (by decide)⟩
theorem Wt.plainB (h : Wt W a b A B g d L w) (hs : B.Small 1000000) (hd : OpAt W d) : Calls Try.prog 28 #[.pointer (some ⟨b, 0, none⟩), .agg (opCells d).toArray] w (Gives (WtRead W a b A (B.plain d) g d L (B.plainc d) (B.plainl d))) :=
  Gives.imp (Many.plain h.1 1 (by omega) hs d hd) fun v w' hg => by
    obtain ⟨s, h1, h2, h3⟩ := hg
    have ho := h2.own List.mem_cons_self
    obtain ⟨x, cap, rfl⟩ := own_form ho
    exact ⟨x, cap, h1, h2.two1, h3 _ _ _ _ h.2 (by decide)⟩
theorem Wt.same (h : Wt W a b A B g d L w) {v1 v2 : Value} {l1 l2 : List Int} (h1 : (v1, l1) ∈ L) (h2 : (v2, l2) ∈ L) : Calls Try.prog 19 #[v1, v2] w (Gives fun v w' => v = .bool (decide (l1 = l2)) ∧ Wt W a b A B g d L w') :=
  Gives.imp (Many.same h.1 h1 h2) fun v w' hg => ⟨hg.1, hg.2.1, hg.2.2 _ _ _ _ h.2 (by decide)⟩
theorem Wt.hasB (h : Wt W a b A B g d L w) (k : Int) : Calls Try.prog 27 #[.pointer (some ⟨b, 0, none⟩), .int .i64 k] w fun e w' => e = .returned (.bool (B.has k)) ∧ w = w' := Many.has h.1 1 (by omega) k
theorem Wt.hasA (h : Wt W a b A B g d L w) (k : Int) : Calls Try.prog 27 #[.pointer (some ⟨a, 0, none⟩), .int .i64 k] w fun e w' => e = .returned (.bool (A.has k)) ∧ w = w' := Many.has h.1 0 (by omega) k
theorem OpAt.zero {W : World} {d : OpD} (h : OpAt W d) : OpAt W { d with slot := 0 } := ⟨h.kind, by unfold inI64; simp only; omega, h.n, h.b, h.bl, h.k⟩

/-- The operation i of a script, as the walk asks it. -/
theorem OpsAt.get {ov : Value} {ops : List OpD} (h : OpsAt W ov ops) {i : Nat} {d : OpD} (hd : ops[i]? = some d) :
    ∃ bb o cap, ov = .slice (some ⟨bb, o, none⟩) ops.length cap ∧ OpAt W d ∧ ∀ w, Keep (Old W) W w → w.rangeAt bb (o + i * 5) (opCells d) := by
  obtain ⟨x, cap, hv, _, h3, h4⟩ := h
  obtain ⟨bb, o, rfl, hr⟩ := h3 (by rintro rfl; simp at hd)
  exact ⟨bb, o, cap, hv, h4 d (List.mem_of_getElem? hd), fun w hk => hk.oldRange (hr i d hd)⟩
theorem op_cells {w : World} {bb o : Nat} {d : OpD} (h : w.rangeAt bb o (opCells d)) : (w.cell? ⟨bb, o, none⟩ = some (.int .i64 d.kind) ∧ w.cell? ⟨bb, o + 1, none⟩ = some (.int .i64 d.slot) ∧ w.cell? ⟨bb, o + 2, none⟩ = some (.int .i64 d.n)) ∧ w.cell? ⟨bb, o + 3, none⟩ = some d.bv ∧ w.cell? ⟨bb, o + 4, none⟩ = some d.kv :=
  ⟨⟨h 0 _ rfl, h 1 _ rfl, h 2 _ rfl⟩, h 3 _ rfl, h 4 _ rfl⟩
end

/-- bay.New of two sizes that came out of the call. -/
theorem new_two {W w : World} {m : Nat} {p : Nat → Nat} {B : Nat → By} {L : List (Value × List Int)} (h : Many W w m p B L) (x y : Int) :
    Calls Try.prog 24 #[.slice (some ⟨w.heap.size, 0, none⟩) 2 2] (w.alloc (.cells #[.int .i64 x, .int .i64 y] 3)) (Gives fun r w' =>
      ((sizeOk x ∧ sizeOk y) ∧ ∃ b, r = .tuple #[.pointer (some ⟨b, 0, none⟩), .int .u16 0] ∧ Many W w' (m + 1) (put p m b) (put B m (By.fresh [x, y] 2)) L) ∨
      (¬ (sizeOk x ∧ sizeOk y) ∧ r = .tuple #[.pointer none, .int .u16 40] ∧ Many W w' m p B L)) :=
  Gives.imp ((h.quiet (Keep.alloc NoF w (.cells #[.int .i64 x, .int .i64 y] 3))).new (pairAt (x := x) (y := y) (heap_alloc_new w _))) fun r w' hg => by
    rcases hg with ⟨_, _, h3, b, h4, h5⟩ | ⟨h1, h2, h3⟩
    · exact .inl ⟨⟨h3 x (by simp), h3 y (by simp)⟩, b, h4, h5⟩
    · refine .inr ⟨fun h => ?_, by simpa using h2, h3⟩
      rcases h1 with h1 | h1
      · simp at h1
      · exact h1 (by simpa using h)
theorem new_two_ok {W w : World} {m : Nat} {p : Nat → Nat} {B : Nat → By} {L : List (Value × List Int)} (h : Many W w m p B L) {x y : Int} (hok : sizeOk x ∧ sizeOk y) :
    Calls Try.prog 24 #[.slice (some ⟨w.heap.size, 0, none⟩) 2 2] (w.alloc (.cells #[.int .i64 x, .int .i64 y] 3)) (Gives fun r w' =>
      ∃ b, r = .tuple #[.pointer (some ⟨b, 0, none⟩), .int .u16 0] ∧ Many W w' (m + 1) (put p m b) (put B m (By.fresh [x, y] 2)) L) :=
  Gives.imp (new_two h x y) fun r w' hg => by
    rcases hg with ⟨_, hg⟩ | ⟨hn, _⟩
    · exact hg
    · exact absurd hok hn
theorem new_two_bad {W w : World} {m : Nat} {p : Nat → Nat} {B : Nat → By} {L : List (Value × List Int)} (h : Many W w m p B L) {x y : Int} (hok : ¬ (sizeOk x ∧ sizeOk y)) :
    Calls Try.prog 24 #[.slice (some ⟨w.heap.size, 0, none⟩) 2 2] (w.alloc (.cells #[.int .i64 x, .int .i64 y] 3)) (Gives fun r w' => r = .tuple #[.pointer none, .int .u16 40] ∧ Many W w' m p B L) :=
  Gives.imp (new_two h x y) fun r w' hg => by
    rcases hg with ⟨hn, _⟩ | ⟨_, hg⟩
    · exact absurd hn hok
    · exact hg
theorem fresh_small (l : List Int) (m : Nat) : (By.fresh l m).Small 0 := by
  refine ⟨by simp [By.fresh], by simp [By.fresh], by simp [By.fresh], fun j d hd => ?_⟩
  unfold By.fresh at hd
  simp only at hd
  split at hd
  · unfold freshDev at hd
    split at hd
    · cases hd
    · obtain rfl := (Option.some.inj hd).symm; simp [Dk.new]
  · cases hd
end Go.Proofs.Ytghnbbpoaeheaaa
