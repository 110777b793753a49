/- Two bays and an operation's copy beside each other. -/
import Derived.Test.YtghnbbpoaeheaaaDL9
namespace Go.Proofs.Ytghnbbpoaeheaaa
open Go.RowKit

def pt (a b : Nat) : Nat → Nat := fun i => match i with | 0 => a | _ => b
def two (A B : By) : Nat → By := fun i => match i with | 0 => A | _ => B
section
variable {W w : World} {a b : Nat} {A B A' B' : By} {L : List (Value × List Int)}
theorem Many.two0 (h : Many W w 2 (pt a b) (put (two A B) 0 A') L) : Many W w 2 (pt a b) (two A' B) L := by
  obtain ⟨F, h1, h2, h3, h4, h5⟩ := h
  refine ⟨F, fun i hi => ?_, h2, h3, h4, h5⟩
  have := h1 i hi
  rcases (by omega : i = 0 ∨ i = 1) with rfl | rfl <;> exact this
theorem Many.two1 (h : Many W w 2 (pt a b) (put (two A B) 1 B') L) : Many W w 2 (pt a b) (two A B') L := by
  obtain ⟨F, h1, h2, h3, h4, h5⟩ := h
  refine ⟨F, fun i hi => ?_, h2, h3, h4, h5⟩
  have := h1 i hi
  rcases (by omega : i = 0 ∨ i = 1) with rfl | rfl <;> exact this
theorem Many.two01 {p : Nat → Nat} {Bs : Nat → By} (h : Many W w (1 + 1) (put (put p 0 a) 1 b) (put (put Bs 0 A) 1 B) L) : Many W w 2 (pt a b) (two A B) L := by
  obtain ⟨F, h1, h2, h3, h4, h5⟩ := h
  refine ⟨F, fun i hi => ?_, h2, h3, h4, h5⟩
  have := h1 i hi
  rcases (by omega : i = 0 ∨ i = 1) with rfl | rfl <;> exact this

/-- Two bays, the bytes that the call holds, and its copy of an operation. -/
def Wt (W : World) (a b : Nat) (A B : By) (g : Nat) (d : OpD) (L : List (Value × List Int)) (w : World) : Prop :=
  Many W w 2 (pt a b) (two A B) L ∧ w.heap[g]? = some (.cells (opCells d).toArray 69 (0, 0))
variable {g : Nat} {d : OpD}
theorem Wt.cells (h : Wt W a b A B g d L w) : (w.cell? ⟨g, 0, none⟩ = some (.int .i64 d.kind) ∧ w.cell? ⟨g, 1, none⟩ = some (.int .i64 d.slot) ∧ w.cell? ⟨g, 2, none⟩ = some (.int .i64 d.n)) ∧ w.cell? ⟨g, 3, none⟩ = some d.bv ∧ w.cell? ⟨g, 4, none⟩ = some d.kv ∧ g < w.heap.size :=
  ⟨⟨cell_at h.2 0 rfl, cell_at h.2 1 rfl, cell_at h.2 2 rfl⟩, cell_at h.2 3 rfl, cell_at h.2 4 rfl, lt_of_heap h.2⟩
theorem wt_start (h : Many W w 2 (pt a b) (two A B) L) (d : OpD) : Wt W a b A B w.heap.size d L (w.alloc (.cells (opCells d).toArray 69)) :=
  ⟨h.quiet (Keep.alloc _ _ _), heap_alloc_new w _⟩
theorem wt_start0 (h : Many W w 2 (pt a b) (two A B) L) (d : OpD) : Wt W a b A B w.heap.size { d with slot := 0 } L ((w.alloc (.cells (opCells d).toArray 69)).setCell ⟨w.heap.size, 1, none⟩ (.int .i64 0)) := by
  have h1 := wt_start h d
  have hk : Keep (· = w.heap.size) (w.alloc (.cells (opCells d).toArray 69)) _ := Keep.setCell (F := (· = w.heap.size)) _ ⟨w.heap.size, 1, none⟩ (.int .i64 0) rfl
  refine ⟨h1.1.own_cell h1.2 (by decide) (by decide) h.old.size hk, ?_⟩
  have := heap_setCell_same _ w.heap.size 1 _ _ (.int .i64 0) h1.2
  simpa [opCells] using this
/-- What plain hands back beside two bays. -/
def WtRead (W : World) (a b : Nat) (A B : By) (g : Nat) (d : OpD) (L : List (Value × List Int)) (c : Int) (l : List Int) (v : Value) (w' : World) : Prop :=
  ∃ x cap, v = .tuple #[.slice x l.length cap, .int .u16 c] ∧ Wt W a b A B g d ((.slice x l.length cap, l) :: L) w'
theorem Wt.plainA (h : Wt W a b A B g d L w) (hs : A.Small 1000000) (hd : OpAt W d) : Calls Try.prog 28 #[.pointer (some ⟨a, 0, none⟩), .agg (opCells d).toArray] w (Gives (WtRead W a b (A.plain d) B g d L (A.plainc d) (A.plainl d))) :=
  Gives.imp (Many.plain h.1 0 (by omega) hs d hd) fun v w' hg => by
    obtain ⟨s, h1, h2, h3⟩ := hg
    have ho := h2.own List.mem_cons_self
    obtain ⟨x, cap, rfl⟩ := own_form ho
    exact ⟨x, cap, h1, h2.two0, h3 _ _ _ _ h.2 (by decide)⟩
theorem Wt.plainB (h : Wt W a b A B g d L w) (hs : B.Small 1000000) (hd : OpAt W d) : Calls Try.prog 28 #[.pointer (some ⟨b, 0, none⟩), .agg (opCells d).toArray] w (Gives (WtRead W a b A (B.plain d) g d L (B.plainc d) (B.plainl d))) :=
  Gives.imp (Many.plain h.1 1 (by omega) hs d hd) fun v w' hg => by
    obtain ⟨s, h1, h2, h3⟩ := hg
    have ho := h2.own List.mem_cons_self
    obtain ⟨x, cap, rfl⟩ := own_form ho
    exact ⟨x, cap, h1, h2.two1, h3 _ _ _ _ h.2 (by decide)⟩
theorem Wt.same (h : Wt W a b A B g d L w) {v1 v2 : Value} {l1 l2 : List Int} (h1 : (v1, l1) ∈ L) (h2 : (v2, l2) ∈ L) : Calls Try.prog 19 #[v1, v2] w (Gives fun v w' => v = .bool (decide (l1 = l2)) ∧ Wt W a b A B g d L w') :=
  Gives.imp (Many.same h.1 h1 h2) fun v w' hg => ⟨hg.1, hg.2.1, hg.2.2 _ _ _ _ h.2 (by decide)⟩
theorem Wt.hasB (h : Wt W a b A B g d L w) (k : Int) : Calls Try.prog 27 #[.pointer (some ⟨b, 0, none⟩), .int .i64 k] w fun e w' => e = .returned (.bool (B.has k)) ∧ w = w' := Many.has h.1 1 (by omega) k
theorem Wt.hasA (h : Wt W a b A B g d L w) (k : Int) : Calls Try.prog 27 #[.pointer (some ⟨a, 0, none⟩), .int .i64 k] w fun e w' => e = .returned (.bool (A.has k)) ∧ w = w' := Many.has h.1 0 (by omega) k
theorem OpAt.zero {W : World} {d : OpD} (h : OpAt W d) : OpAt W { d with slot := 0 } := ⟨h.kind, by unfold inI64; simp only; omega, h.n, h.b, h.bl, h.k⟩

/-- The operation i of a script, as the walk asks it. -/
theorem OpsAt.get {ov : Value} {ops : List OpD} (h : OpsAt W ov ops) {i : Nat} {d : OpD} (hd : ops[i]? = some d) :
    ∃ bb o cap, ov = .slice (some ⟨bb, o, none⟩) ops.length cap ∧ OpAt W d ∧ ∀ w, Keep (Old W) W w → w.rangeAt bb (o + i * 5) (opCells d) := by
  obtain ⟨x, cap, hv, _, h3, h4⟩ := h
  obtain ⟨bb, o, rfl, hr⟩ := h3 (by rintro rfl; simp at hd)
  exact ⟨bb, o, cap, hv, h4 d (List.mem_of_getElem? hd), fun w hk => hk.oldRange (hr i d hd)⟩
theorem op_cells {w : World} {bb o : Nat} {d : OpD} (h : w.rangeAt bb o (opCells d)) : (w.cell? ⟨bb, o, none⟩ = some (.int .i64 d.kind) ∧ w.cell? ⟨bb, o + 1, none⟩ = some (.int .i64 d.slot) ∧ w.cell? ⟨bb, o + 2, none⟩ = some (.int .i64 d.n)) ∧ w.cell? ⟨bb, o + 3, none⟩ = some d.bv ∧ w.cell? ⟨bb, o + 4, none⟩ = some d.kv :=
  ⟨⟨h 0 _ rfl, h 1 _ rfl, h 2 _ rfl⟩, h 3 _ rfl, h 4 _ rfl⟩
end

/-- bay.New of two sizes that came out of the call. -/
theorem new_two {W w : World} {m : Nat} {p : Nat → Nat} {B : Nat → By} {L : List (Value × List Int)} (h : Many W w m p B L) (x y : Int) :
    Calls Try.prog 24 #[.slice (some ⟨w.heap.size, 0, none⟩) 2 2] (w.alloc (.cells #[.int .i64 x, .int .i64 y] 3)) (Gives fun r w' =>
      ((sizeOk x ∧ sizeOk y) ∧ ∃ b, r = .tuple #[.pointer (some ⟨b, 0, none⟩), .int .u16 0] ∧ Many W w' (m + 1) (put p m b) (put B m (By.fresh [x, y] 2)) L) ∨
      (¬ (sizeOk x ∧ sizeOk y) ∧ r = .tuple #[.pointer none, .int .u16 40] ∧ Many W w' m p B L)) :=
  Gives.imp ((h.quiet (Keep.alloc NoF w (.cells #[.int .i64 x, .int .i64 y] 3))).new (pairAt (x := x) (y := y) (heap_alloc_new w _))) fun r w' hg => by
    rcases hg with ⟨_, _, h3, b, h4, h5⟩ | ⟨h1, h2, h3⟩
    · exact .inl ⟨⟨h3 x (by simp), h3 y (by simp)⟩, b, h4, h5⟩
    · refine .inr ⟨fun h => ?_, by simpa using h2, h3⟩
      rcases h1 with h1 | h1
      · simp at h1
      · exact h1 (by simpa using h)
theorem new_two_ok {W w : World} {m : Nat} {p : Nat → Nat} {B : Nat → By} {L : List (Value × List Int)} (h : Many W w m p B L) {x y : Int} (hok : sizeOk x ∧ sizeOk y) :
    Calls Try.prog 24 #[.slice (some ⟨w.heap.size, 0, none⟩) 2 2] (w.alloc (.cells #[.int .i64 x, .int .i64 y] 3)) (Gives fun r w' =>
      ∃ b, r = .tuple #[.pointer (some ⟨b, 0, none⟩), .int .u16 0] ∧ Many W w' (m + 1) (put p m b) (put B m (By.fresh [x, y] 2)) L) :=
  Gives.imp (new_two h x y) fun r w' hg => by
    rcases hg with ⟨_, hg⟩ | ⟨hn, _⟩
    · exact hg
    · exact absurd hok hn
theorem new_two_bad {W w : World} {m : Nat} {p : Nat → Nat} {B : Nat → By} {L : List (Value × List Int)} (h : Many W w m p B L) {x y : Int} (hok : ¬ (sizeOk x ∧ sizeOk y)) :
    Calls Try.prog 24 #[.slice (some ⟨w.heap.size, 0, none⟩) 2 2] (w.alloc (.cells #[.int .i64 x, .int .i64 y] 3)) (Gives fun r w' => r = .tuple #[.pointer none, .int .u16 40] ∧ Many W w' m p B L) :=
  Gives.imp (new_two h x y) fun r w' hg => by
    rcases hg with ⟨hn, _⟩ | ⟨_, hg⟩
    · exact absurd hn hok
    · exact hg
theorem fresh_small (l : List Int) (m : Nat) : (By.fresh l m).Small 0 := by
  refine ⟨by simp [By.fresh], by simp [By.fresh], by simp [By.fresh], fun j d hd => ?_⟩
  unfold By.fresh at hd
  simp only at hd
  split at hd
  · unfold freshDev at hd
    split at hd
    · cases hd
    · obtain rfl := (Option.some.inj hd).symm; simp [Dk.new]
  · cases hd
end Go.Proofs.Ytghnbbpoaeheaaa

/- The bay's Cut, walked, where no disk is coming. -/
namespace Go.Proofs.Ytghnbbpoaeheaaa
open Go.RowKit

def keepsFor (kl : List (Value × List Bool)) (i : Nat) : List Bool := match kl[i]? with | some x => x.2 | none => []
def By.crashAt (B : By) (kl : List (Value × List Bool)) (i : Nat) : By := match B.dev (i * 3) with | none => B | some d => B.setDev (i * 3) (some { d with disk := d.disk.crash (keepsFor kl i) })
def By.cutTo (B : By) (kl : List (Value × List Bool)) : Nat → By
  | 0 => B
  | i + 1 => (B.cutTo kl i).crashAt kl i
def By.cut (B : By) (kl : List (Value × List Bool)) : By := { B.cutTo kl B.n with dark := false, trip := -1 }

theorem crashAt_head (B : By) (kl : List (Value × List Bool)) (i : Nat) : (B.crashAt kl i).n = B.n ∧ (B.crashAt kl i).cr = B.cr ∧ (B.crashAt kl i).cw = B.cw ∧ (B.crashAt kl i).cf = B.cf := by
  unfold By.crashAt; split <;> exact ⟨rfl, rfl, rfl, rfl⟩
theorem cutTo_head (B : By) (kl : List (Value × List Bool)) : ∀ i, (B.cutTo kl i).n = B.n ∧ (B.cutTo kl i).cr = B.cr ∧ (B.cutTo kl i).cw = B.cw ∧ (B.cutTo kl i).cf = B.cf
  | 0 => ⟨rfl, rfl, rfl, rfl⟩
  | i + 1 => by
    obtain ⟨h1, h2, h3, h4⟩ := crashAt_head (B.cutTo kl i) kl i
    obtain ⟨k1, k2, k3, k4⟩ := cutTo_head B kl i
    rw [By.cutTo]
    exact ⟨h1.trans k1, h2.trans k2, h3.trans k3, h4.trans k4⟩
def crashed (kl : List (Value × List Bool)) (i : Nat) (d : Dev) : Dev := { d with disk := d.disk.crash (keepsFor kl i) }
theorem cutTo_dev (B : By) (kl : List (Value × List Bool)) : ∀ i j, (B.cutTo kl i).dev j = if j % 3 = 0 ∧ j / 3 < i then (B.dev j).map (crashed kl (j / 3)) else B.dev j
  | 0, j => by simp [By.cutTo]
  | i + 1, j => by
    rw [By.cutTo]
    have ih := cutTo_dev B kl i
    have h3 : (B.cutTo kl i).dev (i * 3) = B.dev (i * 3) := by rw [ih, if_neg (by omega)]
    unfold By.crashAt
    by_cases hj : j = i * 3
    · subst hj
      rw [if_pos ⟨by omega, by omega⟩, show i * 3 / 3 = i by omega, ← h3]
      split
      · rename_i h; rw [h]; rfl
      · rename_i d h; rw [h]; simp [By.setDev, crashed]
    · have hE : (match (B.cutTo kl i).dev (i * 3) with | none => B.cutTo kl i | some d => (B.cutTo kl i).setDev (i * 3) (some { d with disk := d.disk.crash (keepsFor kl i) })).dev j = (B.cutTo kl i).dev j := by
        split
        · rfl
        · simp [By.setDev, put_other _ _ hj]
      rw [hE, ih]
      by_cases h : j % 3 = 0 ∧ j / 3 < i
      · rw [if_pos h, if_pos ⟨h.1, by omega⟩]
      · rw [if_neg h, if_neg (by omega)]
theorem Small.crashAt {B : By} {m : Int} (h : B.Small m) (hm : 0 ≤ m) (kl : List (Value × List Bool)) (i : Nat) : (B.crashAt kl i).Small m := by
  unfold By.crashAt
  split
  · exact h
  · exact Small.setDev h fun e he => by obtain rfl := (Option.some.inj he).symm; simpa [Dk.crash, Dk.settle] using hm
theorem Small.cutTo {B : By} {m : Int} (h : B.Small m) (hm : 0 ≤ m) (kl : List (Value × List Bool)) : ∀ i, (B.cutTo kl i).Small m
  | 0 => h
  | i + 1 => Small.crashAt (Small.cutTo h hm kl i) hm kl i
theorem Small.cut {B : By} {m : Int} (h : B.Small m) (hm : 0 ≤ m) (kl : List (Value × List Bool)) : (B.cut kl).Small m := by
  have := Small.cutTo h hm kl B.n
  exact ⟨this.cr, this.cw, this.cf, this.cl⟩

theorem KeepsAt.get {W w : World} {kv : Value} {kl : List (Value × List Bool)} (h : KeepsAt W kv kl) (hk : Keep (Old W) W w) {i : Nat} (hi : i < kl.length) :
    ∃ bb o cap a c, kv = .slice (some ⟨bb, o, none⟩) kl.length cap ∧ w.cell? ⟨bb, o + i, none⟩ = some (.slice a (keepsFor kl i).length c) ∧ BoolsAt w (.slice a (keepsFor kl i).length c) (keepsFor kl i) ∧
      ∀ a' n c', Value.slice a (keepsFor kl i).length c = .slice (some a') n c' → keepsFor kl i ≠ [] → a'.block < W.heap.size := by
  obtain ⟨x, cap, hv, _, h3, h4⟩ := h
  obtain ⟨bb, o, rfl, hr⟩ := h3 (by rintro rfl; simp at hi)
  have e : keepsFor kl i = kl[i].2 := by unfold keepsFor; rw [List.getElem?_eq_getElem hi]
  have hb := (h4 kl[i] (List.getElem_mem hi)).1
  have hc := hk.old (hr i kl[i].1 (by simp [hi]))
  obtain ⟨a, c, hv2, h5, h6⟩ := id hb
  rw [hv2] at hc
  rw [e]
  refine ⟨bb, o, cap, a, c, hv, hc, by rw [← hv2]; exact hb.old hk, fun a' n c' he hne => ?_⟩
  obtain ⟨b2, o2, rfl, hr2⟩ := h6 hne
  simp at he
  obtain ⟨rfl, _⟩ := he
  obtain ⟨y, hy⟩ := List.exists_mem_of_ne_nil _ hne
  obtain ⟨j, hj, rfl⟩ := List.mem_iff_getElem.1 hy
  exact World.block_lt_of_cell? W ⟨b2, o2 + j, none⟩ (hr2 j (.bool kl[i].2[j]) (by simp [hj]))

set_option maxRecDepth 100000 in
set_option maxHeartbeats 2000000 in
theorem cut_any {W w : World} {b : Nat} {B : By} {F : Nat → Prop} (h : BayAt w b B F) (hFW : ∀ x, F x → W.heap.size ≤ x) (hWw : Keep (Old W) W w) {kv : Value} {kl : List (Value × List Bool)} (hk : KeepsAt W kv kl) (hs : B.Small 1000000) (hnc : ∀ j, j % 3 = 2 → B.dev j = none) :
    Calls Try.prog 33 #[.pointer (some ⟨b, 0, none⟩), kv] w (Gives fun v w' => v = .tuple #[] ∧ BayPost w b (B.cut kl) F w') := by
  have hkf : kl.length ≤ far := by obtain ⟨_, _, _, h, _⟩ := hk; exact h
  unfold far at hkf
  obtain ⟨ka, kc, rfl, -, -⟩ := id hk
  have hn := h.ok.le
  have HK := Lib.hid hk
  have HS : Hid (∀ i, (B.cutTo kl i).Small 1000000) := fun i => Small.cutTo hs (by omega) kl i
  have H0 : Hid (BayPost w b (B.cutTo kl 0) F w) := BayPost.same h
  obtain ⟨bs, c0, -⟩ := h.head
  have HF : Hid (∀ x, F x → W.heap.size ≤ x) := hFW
  have HW := Lib.hid hWw
  have HNC : Hid (∀ i j, j % 3 = 2 → (B.cutTo kl i).dev j = none) := fun i j hj => by rw [cutTo_dev, if_neg (by omega)]; exact hnc j hj
  have HH : Hid (∀ i, (B.cutTo kl i).n = B.n) := fun i => (cutTo_head B kl i).1
  have HC : Hid (∀ wr, BayPost w b (B.cutTo kl B.n) F wr → ∃ d t, (wr.cell? ⟨b, 1, none⟩ = some (.bool d) ∧ wr.cell? ⟨b, 2, none⟩ = some (.int .i64 t)) ∧ wr.frozen? ⟨b, 1, none⟩ = false ∧ wr.frozen? ⟨b, 2, none⟩ = false ∧ b < wr.heap.size ∧ BayPost w b (B.cut kl) F ((wr.setCell ⟨b, 1, none⟩ (.bool false)).setCell ⟨b, 2, none⟩ (.int .i64 (-1)))) := fun wr hp => by
    obtain ⟨F1, ⟨bs1, ptr1, Fs1, hl⟩, hk1, hF1⟩ := hp
    have hd := hl.head
    have hk2 : Keep (· = b) wr ((wr.setCell ⟨b, 1, none⟩ (.bool false)).setCell ⟨b, 2, none⟩ (.int .i64 (-1))) := (Keep.setCell (F := (· = b)) wr ⟨b, 1, none⟩ (.bool false) rfl).trans' (Keep.setCell (F := (· = b)) _ ⟨b, 2, none⟩ (.int .i64 (-1)) rfl)
    have hb2 := heap_setCell_same _ b 2 _ _ (.int .i64 (-1)) (heap_setCell_same wr b 1 _ _ (.bool false) hl.hb)
    have hl2 : BayLies _ b (B.cut kl) F1 bs1 ptr1 Fs1 := hl.rehead (B' := B.cut kl) hk2 rfl rfl ⟨by show (-1 : Int) ≤ -1; decide, by show (-1 : Int) ≤ 9223372036854775807; decide⟩ (by
      show _ = some (Obj.cells #[.slice (some ⟨bs1, 0, none⟩) (B.cutTo kl B.n).n (B.cutTo kl B.n).n, .bool false, .int .i64 (-1), .int .i64 (B.cutTo kl B.n).cr, .int .i64 (B.cutTo kl B.n).cw, .int .i64 (B.cutTo kl B.n).cf] 130 (0, 0))
      simpa using hb2)
    have hb1 : F1 b := (hl.hF b).2 (.inl rfl)
    have hbF : F b ∨ w.heap.size ≤ b := hF1 b hb1
    have hblt : b < w.heap.size := World.block_lt_of_cell? w _ c0
    exact ⟨_, _, ⟨hd.2.1, hd.2.2.1⟩, free_at hl.hb 1, free_at hl.hb 2, lt_of_heap hl.hb, F1, ⟨bs1, ptr1, Fs1, hl2⟩, hk1.trans hk2 (fun x hx e => by have : x = b := e; subst this; exact hbF.resolve_right (by omega)), hF1⟩
  clear hk hs hnc h hFW hWw
  go_enter Try.func33, Try.ntmps33
  go_wp2
  go_loopw [12] (fun t wr => ∃ i : Nat, i ≤ B.n ∧ t = .int .i64 i ∧ BayPost w b (B.cutTo kl i) F wr) (fun t _ => B.n - (intOf t).toNat)
  case atStart => exact ⟨0, Nat.zero_le _, rfl, H0.out⟩
  case round =>
    obtain ⟨i, hi, rfl, hp⟩ := hrel
    by_cases hlt : i < B.n
    · obtain ⟨F1, ⟨bs1, ptr1, Fs1, hl⟩, hk1, hF1⟩ := id hp
      have hn1 := HH.out i
      have hWwr : Keep (Old W) W wr := HW.out.trans' (hk1.mono fun x _ hx => HF.out x hx)
      have hF1W : ∀ x, F1 x → W.heap.size ≤ x := fun x hx => by
        rcases hF1 x hx with hx | hx
        · exact HF.out x hx
        · have := HW.out.size; omega
      obtain ⟨q0, -⟩ := hl.head
      rw [hn1] at q0
      have q1 := hl.slot (j := i * 3) (by rw [hn1]; omega)
      have q3 := hl.slot (j := i * 3 + 2) (by rw [hn1]; omega)
      have e3 : ptr1 (i * 3 + 2) = .pointer none := by
        have := hl.dev (i * 3 + 2)
        rw [HNC.out i (i * 3 + 2) (by omega)] at this
        exact this.none_form
      rw [e3] at q3
      have hd := hl.dev (i * 3)
      cases hdv : (B.cutTo kl i).dev (i * 3) with
      | none =>
        rw [hdv] at hd
        rw [hd.none_form] at q1
        have HP : Hid (BayPost w b (B.cutTo kl (i + 1)) F wr) := by
          show BayPost _ _ _ _ _
          rw [By.cutTo, By.crashAt, hdv]
          exact hp
        clear hl hk1 hF1 hWwr hF1W e3 hd hdv hp hn1
        go_wp2
        exact ⟨⟨i + 1, by omega, by go_num, HP.out⟩, by simp [intOf]; omega⟩
      | some d =>
        rw [hdv] at hd
        obtain ⟨bv, bd, Fd, hpv, hh, hdk, hnv, hFd⟩ := id hd
        rw [hpv] at q1
        have q2 := cell_at hh 0 rfl
        have hcl : d.disk.cache.length ≤ 1000000 := by have := (HS.out i).cl _ d hdv; omega
        have HP : Hid (∀ w', DiskPost wr bd (d.disk.crash (keepsFor kl i)) Fd w' → BayPost w b (B.cutTo kl (i + 1)) F w' ∧ w'.cell? ⟨bs1, i * 3 + 2, none⟩ = some (.pointer none)) := fun w' hq => by
          have hdp := DevPost.disk hh hnv hFd hq NoF
          rw [← hpv] at hdp
          have hpost := hl.post (by rw [hn1]; omega) hdp (hl.ok.left _ d hdv)
          obtain ⟨F2, g1, g2, g3⟩ := hpost
          refine ⟨⟨F2, ?_, hk1.trans g2 (fun x hx hf => (hF1 x hf).resolve_right (by omega)), fun x hx => ?_⟩, ?_⟩
          · rw [By.cutTo, By.crashAt, hdv]; exact g1
          · rcases g3 x hx with hx | hx
            · exact hF1 x hx
            · exact .inr (Nat.le_trans hk1.size hx)
          · obtain ⟨Fx, _, r2, _⟩ := hq
            exact r2.cell q3 (fun hx => hl.owns (i * 3) ((hFd _).2 (.inr hx)))
        by_cases hik : i < kl.length
        · obtain ⟨kb, ko, kcap, a, c, hkv, hcell, hbools, hblk⟩ := HK.out.get hWwr hik
          simp only [Value.slice.injEq, true_and] at hkv
          obtain ⟨rfl, rfl⟩ := hkv
          have HCR := Lib.hid (crash_any hdk (.slice a (keepsFor kl i).length c) (keepsFor kl i) hbools (fun a' n c' he hne hf => by
            have h1 := hblk a' n c' he hne
            have h2 := hF1W _ ((hl.hF _).2 (.inr (.inr ⟨i * 3, (hFd _).2 (.inr hf)⟩)))
            omega) hcl)
          clear hl hk1 hF1 hWwr hF1W e3 hd hdv hp hn1 hh hdk hnv hFd hbools hblk hpv hcl
          go_wp2_with (go_at_call 39; go_must (refine HCR.out.mono ?_); rintro e w' ⟨v, rfl, rfl, hv⟩; obtain ⟨hP1, q4⟩ := HP.out _ hv; have HP1 := Lib.hid hP1; clear hv hP1)
          exact ⟨⟨i + 1, by omega, by go_num, HP1.out⟩, by simp [intOf]; omega⟩
        · have e : keepsFor kl i = [] := by unfold keepsFor; rw [List.getElem?_eq_none (by omega)]
          have HCR := Lib.hid (crash_any hdk (.slice none 0 0) [] (BoolsAt.nil _) (fun a' n c' he => by simp at he) hcl)
          rw [e] at HP
          clear hl hk1 hF1 hWwr hF1W e3 hd hdv hp hn1 hh hdk hnv hFd hpv hcl e
          go_wp2_with (go_at_call 39; go_must (refine HCR.out.mono ?_); rintro e w' ⟨v, rfl, rfl, hv⟩; obtain ⟨hP1, q4⟩ := HP.out _ hv; have HP1 := Lib.hid hP1; clear hv hP1)
          exact ⟨⟨i + 1, by omega, by go_num, HP1.out⟩, by simp [intOf]; omega⟩
    · obtain rfl : i = B.n := by omega
      obtain ⟨dd, tt, ⟨r1, r2⟩, r3, r4, r5, r6⟩ := HC.out _ hp
      have HR := Lib.hid r6
      clear hp r6
      go_wp2
      go_end0
      exact ⟨_, rfl, rfl, HR.out⟩
end Go.Proofs.Ytghnbbpoaeheaaa

/- BayTrips: what its loop keeps, as plain data; more steps beside several bays. -/
namespace Go.Proofs.Ytghnbbpoaeheaaa
open Go.RowKit

structure Tripping (n : Int) (m : Nat) (dark : Bool) (A B : By) : Prop where
  nA : A.n = m
  nB : B.n = m
  cA : A.Calm
  dev : A.dev = B.dev
  cnt : A.cr = B.cr ∧ A.cw = B.cw ∧ A.cf = B.cf
  lit : dark = false → B.dark = false ∧ B.trip = n - B.total ∧ B.total ≤ n
  out : dark = true → B.dark = true ∧ B.trip = -1

theorem tripping_dark {n : Int} {m : Nat} {dk : Bool} {A B : By} (h : Tripping n m dk A B) (d : OpD) (hk : 0 ≤ d.slot ∧ d.slot < m) (hd : dk = true ∨ B.total = n) :
    Tripping n m true A (B.plain d) ∧ B.plainc d = 50 ∧ B.plainl d = [] ∧ (B.plain d).dark = true := by
  have hk' : B.is d.slot := by unfold By.is; rw [h.nB]; exact hk
  have hst : B.start.dark = true ∧ B.start.trip = -1 ∧ B.start.n = B.n ∧ B.start.dev = B.dev ∧ B.start.cr = B.cr ∧ B.start.cw = B.cw ∧ B.start.cf = B.cf := by
    unfold By.start
    cases dk with
    | true =>
      obtain ⟨h1, h2⟩ := h.out rfl
      rw [if_neg (by rw [h2]; decide)]
      exact ⟨h1, h2, rfl, rfl, rfl, rfl, rfl⟩
    | false =>
      obtain ⟨h1, h2, h3⟩ := h.lit rfl
      have : B.total = n := hd.resolve_left (by decide)
      rw [if_pos (by omega)]
      exact ⟨rfl, rfl, rfl, rfl, rfl, rfl, rfl⟩
  obtain ⟨s1, s2, s3, s4, s5, s6, s7⟩ := hst
  have e : B.plain d = B.start := by rw [plain_op, By.op, if_pos hk', if_pos s1]
  refine ⟨?_, ?_, ?_, by rw [e]; exact s1⟩
  · rw [e]
    exact ⟨h.nA, s3.trans h.nB, h.cA, h.dev.trans s4.symm, (by rw [s5, s6, s7]; exact h.cnt), (fun h => by cases h), fun _ => ⟨s1, s2⟩⟩
  · rw [plain_code, By.opcode, if_pos hk', if_pos s1]
  · rw [plain_list, By.reach, if_pos hk', if_pos s1]

theorem tick_total (B : By) (d : OpD) : (B.tick (opi d)).total = B.total + 1 := by
  unfold By.total By.tick
  rcases opi_or d with h | h | h <;> rw [h] <;> simp <;> omega
theorem tripping_lit {n : Int} {m : Nat} {A B : By} (h : Tripping n m false A B) (d : OpD) (hk : 0 ≤ d.slot ∧ d.slot < m) (hd : B.total ≠ n) :
    Tripping n m false (A.plain d) (B.plain d) ∧ A.plainc d = B.plainc d ∧ A.plainl d = B.plainl d := by
  have kB : B.is d.slot := by unfold By.is; rw [h.nB]; exact hk
  have kA : A.is d.slot := by unfold By.is; rw [h.nA]; exact hk
  obtain ⟨h1, h2, h3⟩ := h.lit rfl
  have sB : B.start = B := by unfold By.start; rw [if_neg (by omega)]
  have sA := h.cA.start
  have dA := h.cA.dark
  have hin : A.in d.slot = B.in d.slot := by unfold By.in; rw [if_pos kA, if_pos kB, h.dev]
  have nd : ¬ (false = true) := by decide
  have key : ∀ x y : By, x.n = m → y.n = m → x.Calm → x.dev = y.dev → (x.cr = y.cr ∧ x.cw = y.cw ∧ x.cf = y.cf) → y.dark = false → y.trip = n - y.total → y.total ≤ n → Tripping n m false x y := fun x y a b c d e f g i => ⟨a, b, c, d, e, fun _ => ⟨f, g, i⟩, (fun h => by cases h)⟩
  have tt : (B.tick (opi d)).trip = n - (B.tick (opi d)).total := by
    rw [tick_total]
    show (if 0 < B.trip then B.trip - 1 else B.trip) = _
    rw [if_pos (by omega)]; omega
  have tle : (B.tick (opi d)).total ≤ n := by rw [tick_total]; omega
  rw [plain_op, plain_op, plain_code, plain_code, plain_list, plain_list]
  unfold By.op By.opcode By.reach
  rw [if_pos kA, if_pos kB, if_pos kA, if_pos kB, if_pos kA, if_pos kB, sA, sB, dA, h1, if_neg nd, if_neg nd, if_neg nd, if_neg nd, if_neg nd, if_neg nd, hin]
  cases hb : B.in d.slot with
  | none => exact ⟨key _ _ h.nA h.nB ⟨by simp [By.tick, h.cA.trip], dA⟩ h.dev (tick_cnt h.cnt _) h1 tt tle, rfl, rfl⟩
  | some e => exact ⟨key _ _ h.nA h.nB (Calm.tick h.cA _ _ _) (by simp only [By.setDev, By.tick, h.dev]) (tick_cnt h.cnt _) h1 tt tle, rfl, rfl⟩

theorem op_n (B : By) (k : Int) (ci : Nat) (g : Dk → Dk) : (B.op k ci g).n = B.n := by
  unfold By.op
  split
  · split
    · unfold By.start; split <;> rfl
    · split <;> rfl
  · rfl
/-- No disk is coming, none is aside. -/
def By.NoneComing (B : By) : Prop := ∀ j, j % 3 = 2 → B.dev j = none
theorem op_coming {B : By} (h : B.NoneComing) (k : Int) (ci : Nat) (g : Dk → Dk) : (B.op k ci g).NoneComing := by
  intro j hj
  unfold By.op
  split
  · split
    · unfold By.start; split <;> exact h j hj
    · split
      · exact h j hj
      · simp only [By.setDev, put_other _ _ (show j ≠ k.toNat * 3 by omega)]; exact h j hj
  · exact h j hj
theorem fresh_coming (l : List Int) (m : Nat) : (By.fresh l m).NoneComing := fun j hj => by unfold By.fresh; dsimp only; rw [if_neg (by omega)]
theorem plain_coming {B : By} (h : B.NoneComing) (d : OpD) : (B.plain d).NoneComing := by rw [plain_op]; exact op_coming h _ _ _

section
variable {W w : World} {m : Nat} {p : Nat → Nat} {B : Nat → By} {L : List (Value × List Int)}
theorem Many.dark (h : Many W w m p B L) (i : Nat) (hi : i < m) : Calls Try.prog 31 #[.pointer (some ⟨p i, 0, none⟩)] w fun e w' => e = .returned (.bool (B i).dark) ∧ w = w' := by
  obtain ⟨F, hb, hF, hst⟩ := h.step i hi
  exact dark_any hb
theorem Many.total (h : Many W w m p B L) (i : Nat) (hi : i < m) (hs : (B i).Small 1000000) : Calls Try.prog 32 #[.pointer (some ⟨p i, 0, none⟩)] w (Gives (ManyVal W w m p B L (.int .i64 (B i).total))) := by
  obtain ⟨F, hb, hF, hst⟩ := h.step i hi
  exact Gives.imp (total_any hb hs) fun v w' hg => ⟨hg.1, h.quiet hg.2, Local.noF hg.2⟩
theorem Many.image (h : Many W w m p B L) (i : Nat) (hi : i < m) (k : Int) : Calls Try.prog 34 #[.pointer (some ⟨p i, 0, none⟩), .int .i64 k] w (Gives (ManyRead W w m p B L ((B i).tcode k) ((B i).image k))) := by
  obtain ⟨F, hb, hF, hst⟩ := h.step i hi
  refine Gives.imp (bimage_any hb k) fun v w' hg => ?_
  obtain ⟨s, rfl, ho, hk⟩ := hg
  exact ⟨s, rfl, (h.quiet hk).mem (ho.mono (Nat.zero_le _)), Local.noF hk⟩
theorem Many.cut (h : Many W w m p B L) (i : Nat) (hi : i < m) (hs : (B i).Small 1000000) (hnc : (B i).NoneComing) {kv : Value} {kl : List (Value × List Bool)} (hk : KeepsAt W kv kl) :
    Calls Try.prog 33 #[.pointer (some ⟨p i, 0, none⟩), kv] w (Gives (ManyVal W w m p (put B i ((B i).cut kl)) L (.tuple #[]))) := by
  have ho := h.old
  obtain ⟨F, hb, hF, hst⟩ := h.step i hi
  exact Gives.imp (cut_any hb hF ho hk hs hnc) fun v w' hg => ⟨hg.1, hst _ _ hg.2⟩
def badCode (l : List Int) : Int := if 1 ≤ l.length ∧ l.length ≤ 17 then 40 else 1
def sizesOk (l : List Int) : Prop := 1 ≤ l.length ∧ l.length ≤ 17 ∧ ∀ s ∈ l, sizeOk s
theorem Many.new_ok (h : Many W w m p B L) {v : Value} {l : List Int} (hv : IntsAt W v l) (hok : sizesOk l) :
    Calls Try.prog 24 #[v] w (Gives fun r w' => ∃ b, r = .tuple #[.pointer (some ⟨b, 0, none⟩), .int .u16 0] ∧ Many W w' (m + 1) (put p m b) (put B m (By.fresh l l.length)) L) :=
  Gives.imp (h.new (hv.old h.old)) fun r w' hg => by
    rcases hg with ⟨_, _, _, hg⟩ | ⟨hn, _⟩
    · exact hg
    · rcases hn with hn | hn
      · exact absurd ⟨hok.1, hok.2.1⟩ hn
      · exact absurd hok.2.2 hn
theorem Many.new_bad (h : Many W w m p B L) {v : Value} {l : List Int} (hv : IntsAt W v l) (hok : ¬ sizesOk l) :
    Calls Try.prog 24 #[v] w (Gives fun r w' => r = .tuple #[.pointer none, .int .u16 (badCode l)] ∧ Many W w' m p B L) :=
  Gives.imp (h.new (hv.old h.old)) fun r w' hg => by
    rcases hg with ⟨h1, h2, h3, _⟩ | ⟨_, hg⟩
    · exact absurd ⟨h1, h2, h3⟩ hok
    · exact hg
end

/-- Behind a Cut two bays of the same devices have the same images. -/
theorem cut_image {A B : By} (hn : A.n = B.n) (hd : A.dev = B.dev) (kl : List (Value × List Bool)) (k : Int) : (A.cut kl).image k = (B.cut kl).image k ∧ (A.cut kl).tcode k = (B.cut kl).tcode k := by
  have e : (A.cut kl).dev = (B.cut kl).dev := by
    funext j
    show (A.cutTo kl A.n).dev j = (B.cutTo kl B.n).dev j
    rw [cutTo_dev, cutTo_dev, hn, hd]
  have en : (A.cut kl).n = (B.cut kl).n := by
    show (A.cutTo kl A.n).n = (B.cutTo kl B.n).n
    rw [(cutTo_head A kl _).1, (cutTo_head B kl _).1, hn]
  have key : ∀ x y : By, x.n = y.n → x.dev = y.dev → x.image k = y.image k ∧ x.tcode k = y.tcode k := by
    rintro ⟨n1, d1, _, _, _, _, _⟩ ⟨n2, d2, _, _, _, _, _⟩ h1 h2
    simp only at h1 h2
    subst h1
    subst h2
    exact ⟨rfl, rfl⟩
  exact key _ _ en e
end Go.Proofs.Ytghnbbpoaeheaaa

/- The bay's Pull, walked: a disk goes from its slot aside. -/
namespace Go.Proofs.Ytghnbbpoaeheaaa
open Go.RowKit

/-- Disks go from place to place: at j stands what stood at σ j, or nothing. -/
def moved {α : Type} (σ : Nat → Option Nat) (f : Nat → α) (z : α) : Nat → α := fun j => match σ j with | none => z | some s => f s
theorem BayLies.shuffle {w w' : World} {b : Nat} {B : By} {F : Nat → Prop} {bs : Nat} {ptr : Nat → Value} {Fs : Nat → Nat → Prop} (h : BayLies w b B F bs ptr Fs) (hk : Keep (· = bs) w w') (σ : Nat → Option Nat) (hσ : ∀ i j s, σ i = some s → σ j = some s → i = j)
    (hout : ∀ j, B.n * 3 ≤ j → σ j = some j) (hs : w'.heap[bs]? = some (.cells ((List.range (B.n * 3)).map (moved σ ptr (.pointer none))).toArray 135 (0, 0))) :
    BayLies w' b { B with dev := moved σ B.dev none } (fun x => x = b ∨ x = bs ∨ ∃ j, moved σ Fs (fun _ => False) j x) bs (moved σ ptr (.pointer none)) (moved σ Fs (fun _ => False)) := by
  have hbs : b ≠ bs := ne_of_elem h.hb h.hs (by decide)
  refine ⟨hk.at h.hb hbs, hs, fun j => ?_, fun a c x hac ha hc => ?_, fun j hj => ?_, fun j hj => ?_, fun x => Iff.rfl, ⟨h.ok.pos, h.ok.le, fun j hj => ?_, fun j d hd => ?_, h.ok.trip⟩⟩
  · show DevAt w' (moved σ ptr (.pointer none) j) (moved σ B.dev none j) (moved σ Fs (fun _ => False) j)
    unfold moved
    cases hj : σ j with
    | none =>
      show DevAt w' (.pointer none) none (fun _ => False)
      exact ⟨rfl, fun _ h => h⟩
    | some s => exact (h.dev s).keep hk (fun x hx e => h.owns s (e ▸ hx))
  · unfold moved at ha hc
    cases h1 : σ a with
    | none => rw [h1] at ha; exact ha
    | some s =>
      rw [h1] at ha
      cases h2 : σ c with
      | none => rw [h2] at hc; exact hc
      | some t =>
        rw [h2] at hc
        refine h.apart s t x (fun e => ?_) ha hc
        subst e
        exact hac (hσ _ _ _ h1 h2)
  · unfold moved at hj
    cases h1 : σ j with
    | none => rw [h1] at hj; exact hj
    | some s => rw [h1] at hj; exact h.ownb s hj
  · unfold moved at hj
    cases h1 : σ j with
    | none => rw [h1] at hj; exact hj
    | some s => rw [h1] at hj; exact h.owns s hj
  · show moved σ B.dev none j = none
    unfold moved
    rw [hout j hj]
    exact h.ok.out j hj
  · unfold moved at hd
    simp only at hd
    cases h1 : σ j with
    | none => rw [h1] at hd; cases hd
    | some s => rw [h1] at hd; exact h.ok.left s d hd

/-- A disk of slot k goes aside. -/
def aside (q : Nat) : Nat → Option Nat := fun j => if j = q + 1 then some q else if j = q then none else some j
def By.pull (B : By) (k : Int) : By := match B.in k with
  | none => B
  | some d => { B.setDev (k.toNat * 3) (some { d with disk := d.disk.crash [] }) with dev := moved (aside (k.toNat * 3)) (B.setDev (k.toNat * 3) (some { d with disk := d.disk.crash [] })).dev none }

set_option maxRecDepth 100000 in
set_option maxHeartbeats 1000000 in
theorem pull_any {w : World} {b : Nat} {B : By} {F : Nat → Prop} (h : BayAt w b B F) (k : Int) (hcl : ∀ j d, B.dev j = some d → d.disk.cache.length ≤ 1000000) : Calls Try.prog 44 #[.pointer (some ⟨b, 0, none⟩), .int .i64 k] w (Gives (CodePost (B.tcode k) (BayPost w b (B.pull k) F))) := by
  have hsame := Lib.hid (BayPost.same h)
  obtain ⟨bs, ptr, Fs, h⟩ := h
  unfold By.pull
  have HT := Lib.hid (there_any h k)
  rcases h.in_cases k with ⟨h1, h2, h3⟩ | ⟨d, h1, hk, hdv, h3, h2, hi⟩
  · rw [h1]
    rw [h2] at HT
    have hne : (B.tcode k == 0) = false := by simpa using h3
    generalize B.tcode k = c at *
    clear h h1 h2 h3 hcl
    go_enter Try.func44, Try.ntmps44
    go_wp2_with (go_at_call 80; refine HT.out.mono ?_; rintro e w' ⟨rfl, rfl⟩)
    go_ret
    exact ⟨_, rfl, rfl, hsame.out⟩
  · rw [h1, h3]
    rw [h2, h3] at HT
    have hd := h.dev (k.toNat * 3)
    rw [hdv] at hd
    obtain ⟨bv, bd, Fd, hp, hh, hdk, hnv, hF⟩ := id hd
    rw [hp] at HT
    have c0 := cell_at hh 0 rfl
    have HC := Lib.hid (crash_any hdk (.slice none 0 0) [] (BoolsAt.nil _) (fun a' n c' he => by simp at he) (hcl _ d hdv))
    have hkk : 0 ≤ k ∧ k < B.n := hk
    have HP : Hid (∀ w', DiskPost w bd (d.disk.crash []) Fd w' → (∃ v3 v4, w'.cell? ⟨bs, k.toNat * 3, none⟩ = some v3 ∧ w'.cell? ⟨bs, k.toNat * 3 + 1, none⟩ = some v4) ∧ w'.frozen? ⟨bs, k.toNat * 3, none⟩ = false ∧ w'.frozen? ⟨bs, k.toNat * 3 + 1, none⟩ = false ∧ bs < w'.heap.size ∧
        Hid (Calls Try.prog 92 #[.pointer (some ⟨b, 0, none⟩), .int .i64 k] w' fun e w'' => e = .returned (.pointer (some ⟨bs, k.toNat * 3, none⟩)) ∧ w' = w'') ∧
        Hid (BayPost w b { B.setDev (k.toNat * 3) (some { d with disk := d.disk.crash [] }) with dev := moved (aside (k.toNat * 3)) (B.setDev (k.toNat * 3) (some { d with disk := d.disk.crash [] })).dev none } F ((w'.setCell ⟨bs, k.toNat * 3, none⟩ (.pointer none)).setCell ⟨bs, k.toNat * 3 + 1, none⟩ (.pointer (some ⟨bv, 0, none⟩))))) := fun w' hq => by
      have hdp := DevPost.disk hh hnv hF hq NoF
      rw [← hp] at hdp
      obtain ⟨F', g1, g2, g3⟩ := hdp
      have hkK : Keep (Fs (k.toNat * 3)) w w' := g2.mono fun x _ hx => hx.resolve_right (fun h => h)
      have hl := h.redev hkK g1 g3 hi (fun e he => (Option.some.inj he) ▸ h.ok.left _ d hdv)
      have hFF := h.redev_F (w' := w') g3
      have hAt := at_any hl k
      have es : slotPtr bs (B.setDev (k.toNat * 3) (some { d with disk := d.disk.crash [] })).n k = .pointer (some ⟨bs, k.toNat * 3, none⟩) := by unfold slotPtr; exact if_pos hkk
      rw [es] at hAt
      have hkk2 : Keep (· = bs) w' ((w'.setCell ⟨bs, k.toNat * 3, none⟩ (.pointer none)).setCell ⟨bs, k.toNat * 3 + 1, none⟩ (.pointer (some ⟨bv, 0, none⟩))) := (Keep.setCell (F := (· = bs)) w' ⟨bs, k.toNat * 3, none⟩ (.pointer none) rfl).trans' (Keep.setCell (F := (· = bs)) _ ⟨bs, k.toNat * 3 + 1, none⟩ (.pointer (some ⟨bv, 0, none⟩)) rfl)
      have hs2 := heap_setCell_same _ bs (k.toNat * 3 + 1) _ _ (.pointer (some ⟨bv, 0, none⟩)) (heap_setCell_same w' bs (k.toNat * 3) _ _ (.pointer none) hl.hs)
      rw [map_put, map_put] at hs2
      have ep : put (put ptr (k.toNat * 3) (.pointer none)) (k.toNat * 3 + 1) (.pointer (some ⟨bv, 0, none⟩)) = moved (aside (k.toNat * 3)) ptr (.pointer none) := by
        funext j
        unfold put moved aside
        by_cases h1 : j = k.toNat * 3 + 1
        · rw [if_pos h1, if_pos h1]; exact hp.symm
        · rw [if_neg h1, if_neg h1]
          by_cases h2 : j = k.toNat * 3
          · rw [if_pos h2, if_pos h2]
          · rw [if_neg h2, if_neg h2]
      rw [ep] at hs2
      have hsh := hl.shuffle hkk2 (aside (k.toNat * 3)) (fun i j s h1 h2 => by
        unfold aside at h1 h2
        split at h1 <;> split at h2 <;> simp at h1 h2 <;> omega) (fun j hj => by
        unfold aside
        have hj' : B.n * 3 ≤ j := hj
        rw [if_neg (by omega), if_neg (by omega)]) hs2
      have hbsF : F bs := (h.hF bs).2 (.inr (.inl rfl))
      have hwlt := h.lt
      refine ⟨⟨_, _, hl.slot (j := k.toNat * 3) hi, hl.slot (j := k.toNat * 3 + 1) (by show _ < B.n * 3; omega)⟩, free_at hl.hs _, free_at hl.hs _, lt_of_heap hl.hs, hAt, ⟨_, ⟨bs, _, _, hsh⟩, ?_, ?_⟩⟩
      · exact (hkK.mono fun x _ hx => (h.hF x).2 (.inr (.inr ⟨_, hx⟩))).trans hkk2 (fun x _ e => (show x = bs from e) ▸ hbsF)
      · rintro x (rfl | rfl | ⟨j, hj⟩)
        · exact .inl ((h.hF _).2 (.inl rfl))
        · exact .inl hbsF
        · unfold moved at hj
          cases h1 : aside (k.toNat * 3) j with
          | none => rw [h1] at hj; exact hj.elim
          | some s => rw [h1] at hj; exact hFF x (.inr (.inr ⟨s, hj⟩))
    generalize k.toNat * 3 = q at *
    clear h h1 h2 h3 hk hdv hp hh hdk hnv hF hd hi hsame hcl hkk
    go_enter Try.func44, Try.ntmps44
    go_wp2_with (first | (go_at_call 80; refine HT.out.mono ?_; rintro e w' ⟨rfl, rfl⟩) | (go_at_call 39; go_must (refine HC.out.mono ?_); rintro e w' ⟨v, rfl, rfl, hv⟩; obtain ⟨⟨v3, v4, r3, r4⟩, f3, f4, hbs, HA, HQ⟩ := HP.out _ hv; clear hv) | (go_at_call 92; go_must (refine HA.out.mono ?_); rintro e w'' ⟨rfl, rfl⟩))
    go_ret
    exact ⟨_, rfl, rfl, HQ.out⟩
end Go.Proofs.Ytghnbbpoaeheaaa
