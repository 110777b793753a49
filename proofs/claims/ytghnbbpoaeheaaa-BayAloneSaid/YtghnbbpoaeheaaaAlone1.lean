/- BayAlone: what its rounds ask, at the operation written out. -/
import Derived.Test.YtghnbbpoaeheaaaFleet
namespace Go.Proofs.Ytghnbbpoaeheaaa
open Go.RowKit

section
variable {W w : World} {b : Nat} {B : By} {n : Nat} {E : Nat → Option Dk} {pv : Nat → Value} {L : List (Value × List Int)} {q g : Nat} {d : OpD}
theorem Fleet.ptr (h : Fleet W w b B n E pv L) {j : Nat} (hj : j < n) : (E j = none ∧ pv j = .pointer none) ∨ ∃ D d, E j = some D ∧ pv j = .pointer (some ⟨d, 0, none⟩) := by
  obtain ⟨F, G, h1, h2, h3, h4, h5, h6, h7⟩ := h
  have := h3 j hj
  cases hE : E j with
  | none => rw [hE] at this; exact .inl ⟨rfl, this.1⟩
  | some D => rw [hE] at this; obtain ⟨d, h, _⟩ := this; exact .inr ⟨D, d, rfl, h⟩
/-- The bay, the disks, the row of pointers, the copy of an operation. -/
def Wf (W : World) (b : Nat) (B : By) (n : Nat) (E : Nat → Option Dk) (pv : Nat → Value) (q g : Nat) (d : OpD) (L : List (Value × List Int)) (w : World) : Prop :=
  Fleet W w b B n E pv L ∧ Ptrs w q n pv ∧ w.heap[g]? = some (.cells (opCells d).toArray 69 (0, 0))
theorem Wf.cells (h : Wf W b B n E pv q g d L w) : (w.cell? ⟨g, 0, none⟩ = some (.int .i64 d.kind) ∧ w.cell? ⟨g, 1, none⟩ = some (.int .i64 d.slot) ∧ w.cell? ⟨g, 2, none⟩ = some (.int .i64 d.n)) ∧ w.cell? ⟨g, 3, none⟩ = some d.bv ∧ w.cell? ⟨g, 4, none⟩ = some d.kv ∧ g < w.heap.size :=
  ⟨⟨cell_at h.2.2 0 rfl, cell_at h.2.2 1 rfl, cell_at h.2.2 2 rfl⟩, cell_at h.2.2 3 rfl, cell_at h.2.2 4 rfl, lt_of_heap h.2.2⟩
theorem Wf.quiet {w' : World} (h : Wf W b B n E pv q g d L w) (hk : Keep NoF w w') : Wf W b B n E pv q g d L w' :=
  ⟨h.1.quiet hk, h.2.1.local (Local.noF hk), hk.at h.2.2 (fun h => h)⟩
theorem wf_start (h : Fleet W w b B n E pv L) (hp : Ptrs w q n pv) (d : OpD) : Wf W b B n E pv q w.heap.size d L (w.alloc (.cells (opCells d).toArray 69)) :=
  ⟨h.quiet (Keep.alloc _ _ _), hp.local (Local.noF (Keep.alloc _ _ _)), heap_alloc_new w _⟩
def WfRead (W : World) (b : Nat) (B : By) (n : Nat) (E : Nat → Option Dk) (pv : Nat → Value) (q g : Nat) (d : OpD) (L : List (Value × List Int)) (c : Int) (l : List Int) (v : Value) (w' : World) : Prop :=
  ∃ x cap, v = .tuple #[.slice x l.length cap, .int .u16 c] ∧ Wf W b B n E pv q g d ((.slice x l.length cap, l) :: L) w'
theorem opat_apart {F : Nat → Prop} (hd : OpAt W d) (hF : ∀ x, F x → W.heap.size ≤ x) : d.bl ≠ [] → ∀ a n c, d.bv = .slice (some a) n c → ¬ F a.block := fun hne a n c hva hf => by
  obtain ⟨a', cap, hv, h1, h2, h3⟩ := hd.b
  obtain ⟨bb, o, ha, hr⟩ := h3 hne
  rw [hva] at hv
  simp at hv
  obtain ⟨x, hx⟩ := List.exists_mem_of_ne_nil _ hne
  obtain ⟨j, hj, rfl⟩ := List.mem_iff_getElem.1 hx
  have hc := hr j (.int .u8 d.bl[j]) (by simp [u8s, hj])
  have hlt := World.block_lt_of_cell? W _ hc
  have hge := hF _ hf
  have : a = ⟨bb, o, none⟩ := by rw [ha] at hv; exact Option.some.inj hv.1
  subst this
  exact absurd hlt (by simpa using hge)
theorem Wf.plain (h : Wf W b B n E pv q g d L w) (hs : B.Small 1000000) (hd : OpAt W d) : Calls Try.prog 28 #[.pointer (some ⟨b, 0, none⟩), .agg (opCells d).toArray] w (Gives (WfRead W b (B.plain d) n E pv q g d L (B.plainc d) (B.plainl d))) := by
  have hk := h.1.old
  obtain ⟨F, hb, hF, hst⟩ := h.1.bay
  refine Gives.imp (plain_any hb d (hd.old hk) (opat_apart hd hF) hs) fun v w' hg => ?_
  obtain ⟨s, rfl, ho, F', h2, h3, h4, _⟩ := hg
  obtain ⟨x, cap, rfl⟩ := own_form ho
  obtain ⟨k1, k2⟩ := hst _ _ ⟨F', h2, h3, h4⟩
  exact ⟨x, cap, rfl, k1.mem (ho.mono (Nat.zero_le _)), h.2.1.local k2, k2 _ _ _ _ h.2.2 (by decide)⟩
theorem Wf.read (h : Wf W b B n E pv q g d L w) {j d0 : Nat} (hj : j < n) {D : Dk} (hD : E j = some D) (hp : pv j = .pointer (some ⟨d0, 0, none⟩)) (at_ : Int) :
    Calls Try.prog 36 #[.pointer (some ⟨d0, 0, none⟩), .int .i64 at_] w (Gives (WfRead W b B n E pv q g d L (D.code at_) (D.read at_))) := by
  obtain ⟨d1, F, h1, h2, h3, h4⟩ := h.1.disk hj hD
  rw [hp] at h1
  obtain rfl : d0 = d1 := by simpa using h1
  refine Gives.imp (read_any h2 at_) fun v w' hg => ?_
  obtain ⟨s, rfl, ho, hk⟩ := hg
  obtain ⟨x, cap, rfl⟩ := own_form ho
  have := h.quiet hk
  exact ⟨x, cap, rfl, this.1.mem (ho.mono (Nat.zero_le _)), this.2.1, this.2.2⟩
theorem Wf.write (h : Wf W b B n E pv q g d L w) {j d0 : Nat} (hj : j < n) {D : Dk} (hD : E j = some D) (hp : pv j = .pointer (some ⟨d0, 0, none⟩)) (at_ : Int) {v : Value} {xs : List Int} (hv : BytesAt W v xs) (hcl : D.cache.length ≤ 1000000) :
    Calls Try.prog 37 #[.pointer (some ⟨d0, 0, none⟩), .int .i64 at_, v] w (Gives fun v w' => v = .int .u16 (D.wcode at_ xs.length) ∧ Wf W b B n (put E j (some (D.write at_ xs))) pv q g d L w') := by
  have ho := h.1.old
  obtain ⟨d1, F, h1, h2, h3, h4⟩ := h.1.disk hj hD
  rw [hp] at h1
  obtain rfl : d0 = d1 := by simpa using h1
  refine Gives.imp (write_any h2 at_ v xs (hv.old ho) hcl) fun v w' hg => ?_
  obtain ⟨k1, k2⟩ := h4 _ _ hg.2
  exact ⟨hg.1, k1, h.2.1.local k2, k2 _ _ _ _ h.2.2 (by decide)⟩
theorem Wf.flush (h : Wf W b B n E pv q g d L w) {j d0 : Nat} (hj : j < n) {D : Dk} (hD : E j = some D) (hp : pv j = .pointer (some ⟨d0, 0, none⟩)) (hcl : D.cache.length ≤ 1000000) :
    Calls Try.prog 38 #[.pointer (some ⟨d0, 0, none⟩)] w (Gives fun v w' => v = .int .u16 D.fcode ∧ Wf W b B n (put E j (some D.flush)) pv q g d L w') := by
  obtain ⟨d1, F, h1, h2, h3, h4⟩ := h.1.disk hj hD
  rw [hp] at h1
  obtain rfl : d0 = d1 := by simpa using h1
  refine Gives.imp (flush_any h2 hcl) fun v w' hg => ?_
  obtain ⟨k1, k2⟩ := h4 _ _ hg.2
  exact ⟨hg.1, k1, h.2.1.local k2, k2 _ _ _ _ h.2.2 (by decide)⟩
/-- Two lists of bytes, one of them held. -/
theorem Wf.same (h : Wf W b B n E pv q g d L w) {v1 v2 : Value} {l1 l2 : List Int} (h1 : BytesAt w v1 l1) (h2 : BytesAt w v2 l2) (he : l1 = l2) : Calls Try.prog 19 #[v1, v2] w (Gives fun v w' => v = .bool true ∧ Wf W b B n E pv q g d L w') :=
  Gives.imp (same_any h1 h2) fun v w' hg => ⟨hg.1.trans (by simp [he]), h.quiet hg.2⟩
end

theorem Wf.cellsY {W w : World} {b : Nat} {B : By} {n : Nat} {E : Nat → Option Dk} {pv : Nat → Value} {q g : Nat} {k s nn : Int} {bv kv : Value} {bl : List Int} {kl : List (Value × List Bool)} {L : List (Value × List Int)} (h : Wf W b B n E pv q g ⟨k, s, nn, bv, bl, kv, kl⟩ L w) :
    (w.cell? ⟨g, 0, none⟩ = some (.int .i64 k) ∧ w.cell? ⟨g, 1, none⟩ = some (.int .i64 s) ∧ w.cell? ⟨g, 2, none⟩ = some (.int .i64 nn)) ∧ w.cell? ⟨g, 3, none⟩ = some bv ∧ w.cell? ⟨g, 4, none⟩ = some kv ∧ g < w.heap.size := h.cells
theorem put_self {α : Type} {f : Nat → α} {i : Nat} {x : α} (h : f i = x) : put f i x = f := by
  funext j
  unfold put
  split
  · rename_i e; rw [e, h]
  · rfl
/-- How far BayAlone's loop over the script has come. -/
def AloneAt (W : World) (b q n : Nat) (pv : Nat → Value) (i : Nat) (w : World) : Prop := ∃ B E, Fleet W w b B n E pv [] ∧ Ptrs w q n pv ∧ Like n B E ∧ B.Small i

/-- One round: the bay's operation, then the disk's; the operation is written out. -/
theorem alone_facts {W : World} {b q n i g : Nat} {pv : Nat → Value} {B : By} {E : Nat → Option Dk} (hlk : Like n B E) (hS : B.Small i) (hi : i ≤ 100000) {j : Nat} (hj : j < n) {D : Dk} {d0 : Nat} (hD : E j = some D) (hp : pv j = .pointer (some ⟨d0, 0, none⟩))
    {k nn : Int} {ba ka : Option Addr} {bcap kcap : Nat} {bl : List Int} {kl : List (Value × List Bool)} (hd : OpAt W ⟨k, j, nn, .slice ba bl.length bcap, bl, .slice ka kl.length kcap, kl⟩) :
    ∃ B' E' c l, (∀ L w, Wf W b B n E pv q g ⟨k, j, nn, .slice ba bl.length bcap, bl, .slice ka kl.length kcap, kl⟩ L w → Calls Try.prog 28 #[.pointer (some ⟨b, 0, none⟩), .agg #[.int .i64 k, .int .i64 j, .int .i64 nn, .slice ba bl.length bcap, .slice ka kl.length kcap]] w (Gives (WfRead W b B' n E pv q g ⟨k, j, nn, .slice ba bl.length bcap, bl, .slice ka kl.length kcap, kl⟩ L c l))) ∧
      (k = 1 → ∀ L w, Wf W b B' n E pv q g ⟨k, j, nn, .slice ba bl.length bcap, bl, .slice ka kl.length kcap, kl⟩ L w → Calls Try.prog 36 #[.pointer (some ⟨d0, 0, none⟩), .int .i64 nn] w (Gives (WfRead W b B' n E' pv q g ⟨k, j, nn, .slice ba bl.length bcap, bl, .slice ka kl.length kcap, kl⟩ L c l))) ∧
      (k = 2 → l = [] ∧ ∀ L w, Wf W b B' n E pv q g ⟨k, j, nn, .slice ba bl.length bcap, bl, .slice ka kl.length kcap, kl⟩ L w → Calls Try.prog 37 #[.pointer (some ⟨d0, 0, none⟩), .int .i64 nn, .slice ba bl.length bcap] w (Gives fun v w' => v = .int .u16 c ∧ Wf W b B' n E' pv q g ⟨k, j, nn, .slice ba bl.length bcap, bl, .slice ka kl.length kcap, kl⟩ L w')) ∧
      (k = 3 → l = [] ∧ ∀ L w, Wf W b B' n E pv q g ⟨k, j, nn, .slice ba bl.length bcap, bl, .slice ka kl.length kcap, kl⟩ L w → Calls Try.prog 38 #[.pointer (some ⟨d0, 0, none⟩)] w (Gives fun v w' => v = .int .u16 c ∧ Wf W b B' n E' pv q g ⟨k, j, nn, .slice ba bl.length bcap, bl, .slice ka kl.length kcap, kl⟩ L w')) ∧
      ∀ L w, Wf W b B' n E' pv q g ⟨k, j, nn, .slice ba bl.length bcap, bl, .slice ka kl.length kcap, kl⟩ L w → AloneAt W b q n pv (i + 1) w := by
  obtain ⟨p1, p2, p3⟩ := like_plain hlk ⟨k, j, nn, .slice ba bl.length bcap, bl, .slice ka kl.length kcap, kl⟩ hj rfl hD
  have hS' := Small.plain hS ⟨k, j, nn, .slice ba bl.length bcap, bl, .slice ka kl.length kcap, kl⟩
  have hcl : D.cache.length ≤ 1000000 := by
    have := hS.cl (j * 3) ⟨D, false, 0⟩ (by rw [hlk.dev j hj, hD]; rfl)
    simp only at this
    omega
  refine ⟨_, _, _, _, fun L w h => Wf.plain h (hS.mono (by omega)) hd, fun hk L w h => ?_, fun hk => ⟨?_, fun L w h => ?_⟩, fun hk => ⟨?_, fun L w h => ?_⟩, fun L w h => ⟨_, put E j (some (opg _ D)), h.1.less (fun q hq => by cases hq), h.2.1, p1, by simpa using hS'⟩⟩
  · rw [p2, p3]
    subst hk
    have e : put E j (some (opg ⟨1, j, nn, .slice ba bl.length bcap, bl, .slice ka kl.length kcap, kl⟩ D)) = E := put_self hD
    rw [e]
    exact Wf.read h hj hD hp nn
  · rw [p3]; subst hk; rfl
  · rw [p2]
    subst hk
    exact Wf.write h hj hD hp nn hd.b hcl
  · rw [p3]; subst hk; rfl
  · rw [p2]
    subst hk
    exact Wf.flush h hj hD hp hcl

/-- The row of pointers has grown by one. -/
theorem range_put {pv : Nat → Value} {i : Nat} {p : Value} : (List.range i).map pv ++ [p] = (List.range (i + 1)).map (put pv i p) := by
  rw [List.range_succ, List.map_append]
  congr 1
  · refine List.map_congr_left fun j hj => ?_
    rw [put_other _ _ (by have := List.mem_range.1 hj; omega)]
  · simp
theorem grow_row {W wr w1 w' : World} {b : Nat} {B : By} {i : Nat} {E : Nat → Option Dk} {pv : Nat → Value} {p v v' : Value} (hf : Fleet W w1 b B (i + 1) E (put pv i p) []) (ho : wr.ownsRow W.heap.size 25 1 v i ((List.range i).map pv)) (hk : Keep NoF wr w1)
    (ho' : w'.ownsRow W.heap.size 25 1 v' (i + 1) ((List.range i).map pv ++ [p])) (hg : (w1.alloc (.cells #[p] 25)).grownBy w' v.ownBlock) : Fleet W w' b B (i + 1) E (put pv i p) [] ∧ w'.ownsRow W.heap.size 25 1 v' (i + 1) ((List.range (i + 1)).map (put pv i p)) := by
  refine ⟨?_, by rw [← range_put]; exact ho'⟩
  have h1 : Fleet W (w1.alloc (.cells #[p] 25)) b B (i + 1) E (put pv i p) [] := hf.quiet (Keep.alloc _ _ _)
  have h2 : (w1.alloc (.cells #[p] 25)).ownsRow W.heap.size 25 1 v i ((List.range i).map pv) := World.ownsRow.alloc (ownsRow_keep ho hk (fun _ _ h => h)) _
  refine h1.row (H := fun x => v.ownBlock = some x) (Keep.grown hg fun x hx => hx) fun x hx => ⟨ownBlock_ge h2 hx, ?_⟩
  obtain ⟨cs, hcs⟩ := own_elem h2 hx
  exact ⟨cs, 25, _, hcs, by decide, by decide⟩
end Go.Proofs.Ytghnbbpoaeheaaa
