/- known, walked: at a bay of its own the operations answer as the code asks. -/
import Derived.Test.YtghnbbpoaeheaaaPure
namespace Go.Proofs.Ytghnbbpoaeheaaa
open Go.RowKit

theorem wpList_make22f {ops : Array Oper} {rest : List Oper} {o : Oper} {a : Act} {Q : Exit → Act → World → Prop} {w : World} (hg : o.guard = none) (l c : Operand) (hop : o.op = Op.makeSlice 22 l c)
    (C : Int) (n : Nat) (hl : a.eval l = .int .i64 C) (hc : a.eval c = .int .i64 C) (hC : C = (n : Int)) (b2 : n ≤ 8192)
    (hK : ∀ w', w'.heap[w.heap.size]? = some (.cells (u8s (List.replicate n 0)).toArray 5 (0, 0)) → w.grownBy w' none → wpList Try.prog ops Q rest (a.put o.dst (.slice (some ⟨w.heap.size, 0, none⟩) n n)) w') : wpList Try.prog ops Q (o :: rest) a w := by
  obtain ⟨i, hi, he⟩ := info_of i5
  simp only [Prod.mk.injEq] at he
  obtain ⟨he1, he2, he3⟩ := he
  refine wpList_make_full w hg l c 22 hop w.heap.size 5 i _ 1 Try.underlying22 hi he1 he2 .i64 .i64 C C n hl hc hC hC (by rw [he3]; omega) (by unfold maxLen; omega) (Nat.le_refl _) ?_
  intro w' h1 h2
  refine hK w' ?_ h2
  rcases h1.2 with ⟨h, _⟩ | ⟨g, cap, cur, hv, hg', hh, hc', hm, hs, ht⟩
  · cases h
  obtain ⟨rfl, rfl⟩ : g = w.heap.size ∧ cap = n := by simp at hv; exact ⟨hv.1.symm, hv.2.symm⟩
  rw [hh]
  have e : (madeCells (Value.int .u8 0).cells (cap * 1)).toList = u8s (List.replicate cap 0) := by
    unfold madeCells
    rw [Array.toList_map, Array.toList_range, Nat.mul_one, u8s, List.map_replicate]
    apply List.ext_getElem
    · simp
    · intro j h1 h2
      simp only [List.getElem_map, List.getElem_replicate]
      simp [Value.cells, Nat.mod_one]
  rw [← e, ← ht, ← hs, List.take_of_length_le (by simp)]

def xs9 : List Int := (List.replicate 128 0).set 5 9
theorem ownB_row {w : World} {g : Nat} {l : List Int} (h : w.heap[g]? = some (.cells (u8s l).toArray 5 (0, 0))) (hl : l.length ≤ maxLen) : OwnB w 0 (.slice (some ⟨g, 0, none⟩) l.length l.length) l :=
  ⟨by simp, .inr ⟨g, l.length, (u8s l).toArray, rfl, Nat.zero_le _, h, Nat.le_refl _, hl, by simp, by simp [List.take_of_length_le]⟩⟩

def pOne (b : Nat) : Nat → Nat := fun _ => b
def B0 : By := By.fresh [2, 0] 2
def B1 : By := B0.op 0 4 (fun D => D.write 1 xs9)
def B2 : By := B1.op 0 5 Dk.flush
def B3 : By := B2.op 1 3 id
def B4 : By := B3.tripped 1
def B5 : By := B4.op 0 3 id
def B6 : By := B5.op 0 3 id
theorem b0 : B0.Small 5 := by
  refine ⟨by decide, by decide, by decide, fun j d hd => ?_⟩
  unfold B0 By.fresh at hd
  simp only at hd
  split at hd
  · unfold freshDev at hd
    split at hd
    · cases hd
    · obtain rfl := Option.some.inj hd; simp [Dk.new]
  · cases hd
theorem write_cache (D : Dk) (a : Int) (b : List Int) : (D.write a b).cache.length ≤ D.cache.length + 1 := by unfold Dk.write; split <;> simp
theorem b1 : B1.Small 6 := Small.op b0 _ _ _ (fun D => write_cache D _ _)
theorem b2 : B2.Small 7 := Small.op b1 _ _ _ (fun D => by unfold Dk.flush; split; · simp
                                                          · simp [Dk.settle])
theorem b3 : B3.Small 8 := Small.op b2 _ _ _ (fun D => by simp)
theorem Small.tripped {B : By} {m : Int} (h : B.Small m) (n : Int) : (B.tripped n).Small m := by
  unfold By.tripped
  split
  · exact h
  · split
    · exact h
    · exact ⟨h.cr, h.cw, h.cf, h.cl⟩
theorem Small.of_in {B : By} {m : Int} (h : B.Small m) {k : Int} {d : Dev} (hd : B.in k = some d) : (d.disk.cache.length : Int) ≤ m := by
  unfold By.in at hd
  split at hd
  · exact h.cl _ d hd
  · cases hd
theorem Small.wear {B : By} {m : Int} (h : B.Small m) (k n : Int) : (B.wear k n).Small m := by
  unfold By.wear
  split
  · exact h
  · split
    · exact h
    · rename_i d hd
      exact Small.setDev h fun e he => by obtain rfl := (Option.some.inj he).symm; have := Small.of_in h hd; exact this
theorem Small.failed {B : By} {m : Int} (h : B.Small m) (hm : 0 ≤ m) (k : Int) : (B.failed k).Small m := by
  unfold By.failed
  split
  · exact h
  · exact Small.setDev h fun e he => by obtain rfl := (Option.some.inj he).symm; simpa [Dk.fail] using hm
theorem b4 : B4.Small 8 := Small.tripped b3 1
theorem b5 : B5.Small 9 := Small.op b4 _ _ _ (fun D => by simp)
theorem k1 : B0.opcode 0 (fun D => D.wcode 1 xs9.length) = 0 := by kernel_rfl
theorem k2 : B1.opcode 0 Dk.fcode = 0 := by decide +kernel
theorem k3 : B2.opcode 1 (fun D => D.code 0) = 51 := by decide +kernel
theorem k4 : B3.tripc 1 = 0 := by decide +kernel
theorem k5 : B4.opcode 0 (fun D => D.code 1) = 0 := by decide +kernel
theorem k5l : B4.readB 0 1 = xs9 := by decide +kernel
theorem k6 : B5.opcode 0 (fun D => D.code 1) = 50 := by decide +kernel
theorem k7 : B6.cr = 2 ∧ B6.cw = 1 ∧ B6.cf = 1 := by decide +kernel

theorem pairAt {w : World} {g : Nat} {x y : Int} (h : w.heap[g]? = some (.cells #[.int .i64 x, .int .i64 y] 3 (0, 0))) : IntsAt w (.slice (some ⟨g, 0, none⟩) 2 2) [x, y] :=
  ⟨_, _, rfl, by simp [maxLen], fun _ => ⟨g, 0, rfl, range_at h 0 _ rfl⟩⟩

/-- A row of bytes of the call's own, new. -/
theorem Many.fresh {W w w2 w3 : World} {m : Nat} {p : Nat → Nat} {B : Nat → By} {L : List (Value × List Int)} (h : Many W w m p B L) (hk : Keep NoF w w2) (hk2 : Keep (· = w.heap.size) w2 w3) {v : Value} {l : List Int} (ho : OwnB w3 0 v l) : Many W w3 m p B ((v, l) :: L) := by
  refine Many.mem ?_ ho
  have h' := h.quiet hk
  have hsz := hk.size
  obtain ⟨F, h1, h2, h3, h4, h5⟩ := h
  obtain ⟨_, _, _, _, k4, _⟩ := h'
  have hWs := h4.size
  refine ⟨F, fun i hi => ((h1 i hi).keep hk (fun _ _ h => h)).keep hk2 (fun x hx e => ?_), h2, h3, k4.trans' (hk2.mono fun x _ e => ?_), fun q hq => ?_⟩
  · have := (h1 i hi).lt x hx; have : x = w.heap.size := e; omega
  · have : x = w.heap.size := e; show W.heap.size ≤ x; omega
  · have h5q := ownsRow_keep (h5 q hq) hk (fun _ _ h => h)
    refine ownsRow_keep h5q hk2 (fun x hx e => ?_)
    obtain ⟨cs, hcs⟩ := own_elem (h5 q hq) hx
    have := lt_of_heap hcs
    have : x = w.heap.size := e
    omega
theorem Many.one {W w' : World} {b : Nat} {B : Nat → By} {B' : By} {L : List (Value × List Int)} (h : Many W w' 1 (fun _ => b) (put B 0 B') L) : Many W w' 1 (fun _ => b) (fun _ => B') L := by
  obtain ⟨F, h1, h2, h3, h4, h5⟩ := h
  refine ⟨F, fun i hi => ?_, h2, h3, h4, h5⟩
  have := h1 i hi
  obtain rfl : i = 0 := by omega
  exact this

def Know (w : World) (B : By) (b : Nat) (L : List (Value × List Int)) (w' : World) : Prop := Many w w' 1 (fun _ => b) (fun _ => B) L
section
variable {w w' : World} {b : Nat} {L : List (Value × List Int)}
theorem Know.write {s : Value} (h : Know w B0 b [(s, xs9)] w') : Calls Try.prog 41 #[.pointer (some ⟨b, 0, none⟩), .int .i64 0, .int .i64 1, s] w' (Gives fun v w' => v = .int .u16 0 ∧ Know w B1 b [(s, xs9)] w') :=
  Gives.imp (Many.write h 0 (by omega) (b0.mono (by omega)) 0 1 s xs9 (List.mem_singleton.2 rfl)) fun v w' hg => ⟨hg.1.trans (by rw [show B0.opcode 0 (fun D => D.wcode 1 xs9.length) = 0 from k1]), hg.2.1.one⟩
theorem Know.flush (h : Know w B1 b L w') : Calls Try.prog 42 #[.pointer (some ⟨b, 0, none⟩), .int .i64 0] w' (Gives fun v w' => v = .int .u16 0 ∧ Know w B2 b L w') :=
  Gives.imp (Many.flush h 0 (by omega) (b1.mono (by omega)) 0) fun v w' hg => ⟨hg.1.trans (by rw [show B1.opcode 0 Dk.fcode = 0 from k2]), hg.2.1.one⟩
theorem Know.read1 (h : Know w B2 b L w') : Calls Try.prog 47 #[.pointer (some ⟨b, 0, none⟩), .int .i64 1, .int .i64 0] w' (Gives fun v w' => ∃ s, v = .tuple #[s, .int .u16 51] ∧ Know w B3 b L w') :=
  Gives.imp (Many.read h 0 (by omega) (b2.mono (by omega)) 1 0) fun v w' hg => by
    obtain ⟨s, h1, h2, _⟩ := hg
    exact ⟨s, h1.trans (by rw [show B2.opcode 1 (fun D => D.code 0) = 51 from k3]), (h2.less fun q hq => List.mem_cons_of_mem _ hq).one⟩
theorem Know.trip (h : Know w B3 b L w') : Calls Try.prog 30 #[.pointer (some ⟨b, 0, none⟩), .int .i64 1] w' (Gives fun v w' => v = .int .u16 0 ∧ Know w B4 b L w') :=
  Gives.imp (Many.trip h 0 (by omega) 1 (by omega)) fun v w' hg => ⟨hg.1.trans (by rw [show B3.tripc 1 = 0 from k4]), hg.2.1.one⟩
theorem Know.read2 (h : Know w B4 b L w') : Calls Try.prog 47 #[.pointer (some ⟨b, 0, none⟩), .int .i64 0, .int .i64 1] w' (Gives fun v w' => ∃ s, v = .tuple #[s, .int .u16 0] ∧ Know w B5 b ((s, xs9) :: L) w') :=
  Gives.imp (Many.read h 0 (by omega) (b4.mono (by omega)) 0 1) fun v w' hg => by
    obtain ⟨s, h1, h2, _⟩ := hg
    rw [show B4.readB 0 1 = xs9 from k5l] at h2
    exact ⟨s, h1.trans (by rw [show B4.opcode 0 (fun D => D.code 1) = 0 from k5]), h2.one⟩
theorem Know.read3 (h : Know w B5 b L w') : Calls Try.prog 47 #[.pointer (some ⟨b, 0, none⟩), .int .i64 0, .int .i64 1] w' (Gives fun v w' => ∃ s, v = .tuple #[s, .int .u16 50] ∧ Know w B6 b L w') :=
  Gives.imp (Many.read h 0 (by omega) (b5.mono (by omega)) 0 1) fun v w' hg => by
    obtain ⟨s, h1, h2, _⟩ := hg
    exact ⟨s, h1.trans (by rw [show B5.opcode 0 (fun D => D.code 1) = 50 from k6]), (h2.less fun q hq => List.mem_cons_of_mem _ hq).one⟩
theorem Know.same {s t : Value} (h : Know w B6 b L w') (hs : (s, xs9) ∈ L) (ht : (t, xs9) ∈ L) : Calls Try.prog 19 #[s, t] w' (Gives fun v w' => v = .bool true ∧ Know w B6 b L w') :=
  Gives.imp (Many.same h hs ht) fun v w' hg => ⟨hg.1.trans (by simp), hg.2.1⟩
theorem Know.counts (h : Know w B6 b L w') : Calls Try.prog 29 #[.pointer (some ⟨b, 0, none⟩)] w' (Gives fun v w' => v = .agg #[.int .i64 2, .int .i64 1, .int .i64 1] ∧ Know w B6 b L w') :=
  Gives.imp (Many.counts h 0 (by omega)) fun v w' hg => ⟨hg.1.trans (by obtain ⟨h1, h2, h3⟩ := k7; simp only [h1, h2, h3]), hg.2.1⟩
end

theorem known_new (w : World) : Calls Try.prog 24 #[.slice (some ⟨w.heap.size, 0, none⟩) 2 2] (w.alloc (.cells #[.int .i64 2, .int .i64 0] 3)) (Gives fun r w' => ∃ b, r = .tuple #[.pointer (some ⟨b, 0, none⟩), .int .u16 0] ∧ Know w B0 b [] w') := by
  have hg0 : Many w (w.alloc (.cells #[.int .i64 2, .int .i64 0] 3)) 0 (fun _ => 0) (fun _ => B0) [] := (Many.start0 w _ _).quiet (Keep.alloc _ _ _)
  refine Gives.imp (hg0.new (pairAt (x := 2) (y := 0) (heap_alloc_new w _))) fun v w' hg => ?_
  rcases hg with ⟨_, _, _, b, h1, h2⟩ | ⟨h1, _, _⟩
  · refine ⟨b, h1, ?_⟩
    obtain ⟨F, h1, h2, h3, h4, h5⟩ := h2
    refine ⟨F, fun i hi => ?_, h2, h3, h4, h5⟩
    have := h1 i hi
    obtain rfl : i = 0 := by omega
    exact this
  · simp [sizeOk] at h1
theorem know_x {w w1 w2 : World} {b : Nat} (h : Know w B0 b [] w1) (ho : w2.heap[w1.heap.size]? = some (.cells (u8s (List.replicate 128 0)).toArray 5 (0, 0))) (hg : w1.grownBy w2 none) :
    Know w B0 b [(.slice (some ⟨w1.heap.size, 0, none⟩) 128 128, xs9)] (w2.setCell ⟨w1.heap.size, 5, none⟩ (.int .u8 9)) := by
  refine Many.fresh h (Keep.grown hg (fun _ h => by cases h)) (Keep.setCell (F := (· = w1.heap.size)) w2 ⟨w1.heap.size, 5, none⟩ (.int .u8 9) rfl) ?_
  have := heap_setCell_same w2 w1.heap.size 5 _ _ (.int .u8 9) ho
  have e : (u8s (List.replicate 128 0)).toArray.setIfInBounds 5 (.int .u8 9) = (u8s xs9).toArray := by
    simp [u8s, xs9, List.map_set]
  rw [e] at this
  exact ownB_row (l := xs9) this (by simp [xs9, maxLen])

set_option maxRecDepth 100000 in
set_option maxHeartbeats 1000000 in
theorem known_any (w : World) : Calls Try.prog 25 #[] w (Gives fun v w' => v = .bool true ∧ Keep (Old w) w w') := by
  have HN := Lib.hid (known_new w)
  go_enter Try.func25, Try.ntmps25
  go_wp2_with (first | (go_at_call 24; go_must (refine HN.out.mono ?_); rintro e w1 ⟨v, rfl, b, rfl, hv⟩; have H0 := Lib.hid hv; clear hv) | (at_make; go_must (refine wpList_make22f rfl _ _ rfl _ 128 rfl rfl (by rfl) (by omega) ?_); intro w2 ho hg; have H1 := Lib.hid (know_x H0.out ho hg); have c5 : w2.cell? ⟨w1.heap.size, 5, none⟩ = some (.int .u8 0) := cell_at ho 5 rfl; have f5 := free_at ho 5; clear ho hg) | (go_at_call 41; go_must (refine (Know.write H1.out).mono ?_); rintro e w3 ⟨v, rfl, rfl, hv⟩; have H2 := Lib.hid hv; clear hv) | (go_at_call 42; go_must (refine (Know.flush H2.out).mono ?_); rintro e w4 ⟨v, rfl, rfl, hv⟩; have H3 := Lib.hid hv; clear hv) | (go_at_call 30; go_must (refine (Know.trip H4.out).mono ?_); rintro e w6 ⟨v, rfl, rfl, hv⟩; have H5 := Lib.hid hv; clear hv) | (go_at_call 47; refine (Know.read3 H6.out).mono ?_; rintro e w8 ⟨v, rfl, s3, rfl, hv⟩; have H7 := Lib.hid hv; clear hv) | (go_at_call 47; refine (Know.read2 H5.out).mono ?_; rintro e w7 ⟨v, rfl, s2, rfl, hv⟩; have H6 := Lib.hid hv; clear hv) | (go_at_call 47; refine (Know.read1 H3.out).mono ?_; rintro e w5 ⟨v, rfl, s1, rfl, hv⟩; have H4 := Lib.hid hv; clear hv) | (go_at_call 19; go_must (refine (Know.same H7.out (by simp) (by simp)).mono ?_); rintro e w9 ⟨v, rfl, rfl, hv⟩; have H8 := Lib.hid hv; clear hv) | (go_at_call 29; go_must (refine (Know.counts H8.out).mono ?_); rintro e w10 ⟨v, rfl, rfl, hv⟩; have H9 := Lib.hid hv; clear hv))
  go_ret
  exact ⟨_, rfl, rfl, Many.old H9.out⟩
end Go.Proofs.Ytghnbbpoaeheaaa
