/- DiskLoads: one act, and what the call holds ahead of its acts. -/
import Derived.Test.YtghnbbpoaeheaaaDL23
namespace Go.Proofs.Ytghnbbpoaeheaaa
open Go.RowKit

section
variable {W w w' : World} {d r bk pr : Nat} {D : Dk} {qb qi : List (Value × List Int)} {L : List Part} {ps : List Part}
/-- One act. -/
theorem does_any (h : Pr W d r bk pr D qb qi w) {x : ActD} (hx : ActAt W x) (hb : x.bl.length ≤ 4000000) (hk : x.kl.length ≤ 4000000) (hc : D.cache.length ≤ 1000000) (hqb : qb.length ≤ 1000) (hqi : qi.length ≤ 1000) :
    Calls Try.prog 21 #[.pointer (some ⟨pr, 0, none⟩), .agg #[.int .u8 x.kind, .int .i64 x.at_, x.bv, x.kv]] w (Gives (DoesPost W d r bk pr D qb qi)) := by
  obtain ⟨kind, at_, bv, bl, kv, kl⟩ := x
  have e1 : ∃ ba bcap, bv = .slice ba bl.length bcap := by obtain ⟨ba, bcap, e, -⟩ := hx.b; exact ⟨ba, bcap, e⟩
  have e2 : ∃ ka kcap, kv = .slice ka kl.length kcap := by obtain ⟨ka, kcap, e, -⟩ := hx.k; exact ⟨ka, kcap, e⟩
  obtain ⟨ba, bcap, rfl⟩ := e1
  obtain ⟨ka, kcap, rfl⟩ := e2
  have hkd := hx.kind
  have hcases : kind % 9 = 0 ∨ (kind % 9 = 1 ∨ kind % 9 = 2) ∨ kind % 9 = 3 ∨ kind % 9 = 4 ∨ kind % 9 = 5 ∨ kind % 9 = 6 ∨ kind % 9 = 7 ∨ kind % 9 = 8 := by omega
  rcases hcases with hm | hm | hm | hm | hm | hm | hm | hm
  · exact does_read h hkd hm hc hqb
  · exact does_write h hx hb hm hc
  · exact does_flush h hkd hm hc
  · exact does_crash h hx hk hm hc
  · exact does_pending h hkd hm hc hqi
  · exact does_image h hkd hm hqb
  · by_cases hat : at_ = 77
    · exact does_fail h hkd hm hat hc
    · exact does_end h hkd (.inl ⟨hm, hat⟩)
  · exact does_end h hkd (.inr hm)

theorem All.past (h : All W ps w) (hk : Keep (Old w) w w') : All W ps w' :=
  ⟨fun q hq => q.keep (h.holds q hq) hk fun x hx ho => by have := q.lt (h.holds q hq) x hx; have ho : w.heap.size ≤ x := ho; omega, h.apart, h.fresh, h.kept.trans' (hk.mono fun x _ ho => by have ho : w.heap.size ≤ x := ho; have := h.size; exact Nat.le_trans this ho)⟩
/-- Both disks. -/
def Kr (W : World) (d r : Nat) (D : Dk) (L : List Part) (w : World) : Prop := ∃ F1 F2, All W (dkP d D F1 :: rfP r D F2 :: L) w
theorem ld_lent {v : Value} {l : List Int} (hv : BytesAt W v l) (hn : l.length ≤ 1000000000) : Calls Try.prog 11 #[v] W (Gives fun s w' => ∃ g, All W [lnP s l g] w') :=
  Gives.imp (lent_any hv hn) fun s w' ⟨g, h1, h2, h3⟩ => ⟨g, (All.none W).new (p' := lnP s l g) h3 h1 (fun y hy => by have : y = g := hy; omega)⟩
theorem ld_bad {s : Value} {l : List Int} {g : Nat} (h : All W [lnP s l g] w) (hb : ¬ loadOk l) : Calls Try.prog 12 #[s] w (Gives fun v w' => v = .tuple #[.pointer none, .int .u16 40] ∧ All W [lnP s l g] w') := by
  have h1 : LentAt w s l g := h.head
  refine Gives.imp (load_any h1.bytes) fun v w' hg => ?_
  unfold LoadPost at hg
  rw [if_neg hb] at hg
  obtain ⟨h2, rfl⟩ := hg
  exact ⟨h2, h⟩
theorem ld_ok {s : Value} {l : List Int} {g : Nat} (h : All W [lnP s l g] w) (hb : loadOk l) : Calls Try.prog 12 #[s] w (Gives fun v w' => ∃ d, v = .tuple #[.pointer (some ⟨d, 0, none⟩), .int .u16 0] ∧ Kn W d (Dk.of l) [lnP s l g] w') := by
  have h1 : LentAt w s l g := h.head
  refine Gives.imp (load_any h1.bytes) fun v w' hg => ?_
  unfold LoadPost at hg
  rw [if_pos hb] at hg
  obtain ⟨d, F, h2, h3, h4, h5⟩ := hg
  exact ⟨d, h2, F, h.new h4 h3 h5⟩
theorem rld_bad {v : Value} {l : List Int} (h : All W L w) (hv : BytesAt W v l) (hb : ¬ loadOk l) : Calls Try.prog 13 #[v] w (Gives fun v w' => v = .tuple #[.pointer none, .int .i64 40] ∧ All W L w') := by
  refine Gives.imp (rload_any (hv.old h.kept)) fun v w' hg => ?_
  unfold RLoadPost at hg
  rw [if_neg hb] at hg
  obtain ⟨h2, rfl⟩ := hg
  exact ⟨h2, h⟩
theorem rld_ok {v : Value} {l : List Int} (h : Kn W d (Dk.of l) L w) (hv : BytesAt W v l) (hb : loadOk l) : Calls Try.prog 13 #[v] w (Gives fun v w' => ∃ r, v = .tuple #[.pointer (some ⟨r, 0, none⟩), .int .i64 0] ∧ Kr W d r (Dk.of l) L w') := by
  obtain ⟨F, h⟩ := h
  refine Gives.imp (rload_any (hv.old h.kept)) fun v w' hg => ?_
  unfold RLoadPost at hg
  rw [if_pos hb] at hg
  obtain ⟨r, F2, h2, h3, h4, h5⟩ := hg
  exact ⟨r, h2, F, F2, (h.new (p' := rfP r (Dk.of l) F2) h4 h3 h5).swap⟩
theorem ld_whole {s v : Value} {l : List Int} {g : Nat} (h : All W (lnP s l g :: L) w) (hv : BytesAt W v l) (hn : l.length ≤ 1000000000) : Calls Try.prog 14 #[s, v] w (Gives fun r w' => r = .bool true ∧ All W (lnP s l g :: L) w') := by
  have h1 : LentAt w s l g := h.head
  exact Gives.imp (whole_any h1 (hv.old h.kept) hn) fun _ _ ⟨h1, h2⟩ => ⟨h1, h.quiet h2⟩
theorem ld_spoil {s : Value} {l : List Int} {g : Nat} (h : All W (lnP s l g :: L) w) : Calls Try.prog 15 #[s] w (Gives fun r w' => r = .tuple #[] ∧ All W L w') := by
  have h1 : LentAt w s l g := h.head
  exact Gives.imp (spoil_any h1) fun _ _ ⟨h1, h2⟩ => ⟨h1, h.drop h2⟩
theorem Kr.whole {s v : Value} {l : List Int} {g : Nat} (h : Kr W d r D (lnP s l g :: L) w) (hv : BytesAt W v l) (hn : l.length ≤ 1000000000) : Calls Try.prog 14 #[s, v] w (Gives fun r' w' => r' = .bool true ∧ Kr W d r D (lnP s l g :: L) w') := by
  obtain ⟨F1, F2, h⟩ := h
  exact Gives.imp (ld_whole h.third hv hn) fun _ _ ⟨h1, h2⟩ => ⟨h1, F1, F2, h2.back⟩
theorem Kr.spoil {s : Value} {l : List Int} {g : Nat} (h : Kr W d r D (lnP s l g :: L) w) : Calls Try.prog 15 #[s] w (Gives fun r' w' => r' = .tuple #[] ∧ Kr W d r D L w') := by
  obtain ⟨F1, F2, h⟩ := h
  exact Gives.imp (ld_spoil h.third) fun _ _ ⟨h1, h2⟩ => ⟨h1, F1, F2, h2⟩
theorem Kr.past (h : Kr W d r D L w) (hk : Keep (Old w) w w') : Kr W d r D L w' := by
  obtain ⟨F1, F2, h⟩ := h; exact ⟨F1, F2, h.past hk⟩
theorem Kr.quiet (h : Kr W d r D L w) (hk : Keep NoF w w') : Kr W d r D L w' := by
  obtain ⟨F1, F2, h⟩ := h; exact ⟨F1, F2, h.quiet hk⟩
theorem Kr.kept (h : Kr W d r D L w) : Keep (Old W) W w := by
  obtain ⟨F1, F2, h⟩ := h; exact h.kept
theorem Kr.image (h : Kr W d r D L w) : Calls Try.prog 18 #[.pointer (some ⟨d, 0, none⟩)] w (Gives fun v w' => Kr W d r D (byP v D.image :: L) w') := by
  obtain ⟨F1, F2, h⟩ := h
  exact Gives.imp (image_any h.head) fun v w' h2 => ⟨F1, F2, (h.ownB h2).back⟩
theorem Kr.same {v1 v2 : Value} {l : List Int} (h : Kr W d r D (byP v1 l :: L) w) (h2 : BytesAt W v2 l) : Calls Try.prog 19 #[v1, v2] w (Gives fun v w' => v = .bool true ∧ Kr W d r D (byP v1 l :: L) w') := by
  have h' := h
  obtain ⟨F1, F2, h'⟩ := h'
  have hb : BytesAt w v1 l := OwnB.bytes (h'.holds (byP v1 l) (.tail _ (.tail _ (.head _))))
  exact Gives.imp (same_any hb (h2.old h'.kept)) fun _ _ ⟨h3, h4⟩ => ⟨h3.trans (by simp), h.quiet h4⟩
def bkC : Array Value := #[.slice none 0 0, .slice none 0 0, .slice none 0 0, .slice none 0 0, .slice none 0 0, .slice none 0 0, .slice none 0 0, .slice none 0 0, .slice none 0 0, .slice none 0 0, .slice none 0 0, .slice none 0 0]
/-- Behind them the book and the pair. -/
def Pq (W : World) (d r bk pr : Nat) (D : Dk) (qb qi : List (Value × List Int)) (L : List Part) (w : World) : Prop :=
  ∃ F1 F2 F3, All W (dkP d D F1 :: rfP r D F2 :: bkP bk qb qi F3 :: ceP pr (prC ⟨d, r, bk, pr, 0⟩) 55 :: L) w
theorem Pq.toPr (h : Pq W d r bk pr D qb qi [] w) : Pr W d r bk pr D qb qi w := h
theorem Kr.boxes (h : Kr W d r D L w) : Pq W d r w.heap.size (w.alloc (.cells bkC 53)).heap.size D [] [] L ((w.alloc (.cells bkC 53)).alloc (.cells #[.pointer (some ⟨d, 0, none⟩), .pointer (some ⟨r, 0, none⟩), .pointer (some ⟨w.heap.size, 0, none⟩)] 55)) := by
  obtain ⟨F1, F2, h⟩ := h
  have hk : Keep NoF w (w.alloc (.cells bkC 53)) := Keep.alloc _ _ _
  have hb : BookAt (w.alloc (.cells bkC 53)) w.heap.size [] [] (· = w.heap.size) :=
    ⟨.slice none 0 0, .slice none 0 0, heap_alloc_new w _, World.ownsRow_nil _ _ _ _, World.ownsRow_nil _ _ _ _, fun e he => (by cases he), fun e he => (by cases he), List.Pairwise.nil, List.Pairwise.nil, fun x => (by simp [Value.ownBlock])⟩
  have h1 := (h.new (p' := bkP w.heap.size [] [] (· = w.heap.size)) hk hb (fun y hy => by have : y = w.heap.size := hy; omega)).back
  have h2 := h1.cells (prC ⟨d, r, w.heap.size, (w.alloc (.cells bkC 53)).heap.size, 0⟩) 55
  exact ⟨F1, F2, _, h2.perm (List.perm_middle (l₁ := [_, _, _])).symm⟩
theorem Pq.bookB {s : Value} {l : List Int} (h : Pq W d r bk pr D qb qi (byP s l :: L) w) (hn : qb.length ≤ 1000000) : Calls Try.prog 20 #[.pointer (some ⟨bk, 0, none⟩), s] w (Gives fun v w' => v = .tuple #[] ∧ Pq W d r bk pr D (qb ++ [(s, l)]) qi L w') := by
  obtain ⟨F1, F2, F3, h⟩ := h
  have hs := h.perm (List.perm_middle (l₁ := [_, _, _, _]))
  have ht := hs.perm (List.perm_middle (l₁ := [_, _, _]))
  refine Gives.imp (book_bytes_any (h.holds (bkP bk qb qi F3) (.tail _ (.tail _ (.head _)))) hs.head (fun y hy hF => hs.first (.tail _ (.tail _ (.head _))) y hy hF) hn) fun v w' ⟨h1, F', h2, h3, h4⟩ => ⟨h1, F1, F2, F', (All.join (p' := bkP bk (qb ++ [(s, l)]) qi F') ht h3 h2 h4).back⟩
theorem Pq.cells (h : Pq W d r bk pr D qb qi L w) : w.cell? ⟨pr, 0, none⟩ = some (.pointer (some ⟨d, 0, none⟩)) ∧ w.cell? ⟨pr, 1, none⟩ = some (.pointer (some ⟨r, 0, none⟩)) ∧ w.cell? ⟨pr, 2, none⟩ = some (.pointer (some ⟨bk, 0, none⟩)) := by
  obtain ⟨F1, F2, F3, h⟩ := h
  have a1 : w.heap[pr]? = some (.cells (prC ⟨d, r, bk, pr, 0⟩) 55 (0, 0)) := h.holds (ceP pr (prC ⟨d, r, bk, pr, 0⟩) 55) (.tail _ (.tail _ (.tail _ (.head _))))
  exact ⟨cell_at a1 0 rfl, cell_at a1 1 rfl, cell_at a1 2 rfl⟩
theorem Pq.kept (h : Pq W d r bk pr D qb qi L w) : Keep (Old W) W w := by
  obtain ⟨F1, F2, F3, h⟩ := h; exact h.kept
/-- How far the acts have come. -/
def Run (W : World) (d r bk pr i : Nat) (w : World) : Prop := ∃ D qb qi, Pr W d r bk pr D qb qi w ∧ D.cache.length ≤ i ∧ qb.length ≤ i + 1 ∧ qi.length ≤ i ∧ (∀ e ∈ qb, e.2.length ≤ 2000000) ∧ ∀ e ∈ qi, e.2.length ≤ i
theorem Run.does {i : Nat} (h : Run W d r bk pr i w) (hi : i ≤ 40) {x : ActD} (hx : ActAt W x) (hb : x.bl.length ≤ 4000000) (hk : x.kl.length ≤ 4000000) :
    Calls Try.prog 21 #[.pointer (some ⟨pr, 0, none⟩), .agg #[.int .u8 x.kind, .int .i64 x.at_, x.bv, x.kv]] w (Gives fun v w' => v = .bool true ∧ Run W d r bk pr (i + 1) w') := by
  obtain ⟨D, qb, qi, h1, h2, h3, h4, h5, h6⟩ := h
  refine Gives.imp (does_any h1 hx hb hk (by omega) (by omega) (by omega)) fun v w' ⟨g1, D', qb', qi', g2, g3⟩ => ⟨g1, D', qb', qi', g2, ?_, ?_, ?_, fun e he => ?_, fun e he => ?_⟩
  · have := g3.c; omega
  · have := g3.nb; omega
  · have := g3.ni; omega
  · rcases g3.b e he with h | h
    · exact h5 e h
    · exact h
  · rcases g3.i e he with h | h
    · have := h6 e h; omega
    · omega
theorem Run.own {i : Nat} (h : Run W d r bk pr i w) (hi : i ≤ 41) : Calls Try.prog 22 #[.pointer (some ⟨bk, 0, none⟩)] w (Gives fun v w' => v = .bool true ∧ Keep (Old W) W w') := by
  obtain ⟨D, qb, qi, ⟨F1, F2, F3, h1⟩, h2, h3, h4, h5, h6⟩ := h
  have hb : BookAt w bk qb qi F3 := h1.holds (bkP bk qb qi F3) (.tail _ (.tail _ (.head _)))
  exact Gives.imp (book_own_any hb (by omega) (by omega) (fun e he => by have := h5 e he; omega) (fun e he => by have := h6 e he; omega)) fun v w' ⟨g1, g2⟩ =>
    ⟨g1, h1.kept.trans' (g2.mono fun x _ hx => h1.fresh (bkP bk qb qi F3) (.tail _ (.tail _ (.head _))) x hx)⟩
theorem Run.kept {i : Nat} (h : Run W d r bk pr i w) : Keep (Old W) W w := by
  obtain ⟨D, qb, qi, ⟨F1, F2, F3, h1⟩, _⟩ := h; exact h1.kept
theorem Run.cells {i : Nat} (h : Run W d r bk pr i w) : w.cell? ⟨pr, 2, none⟩ = some (.pointer (some ⟨bk, 0, none⟩)) := by
  obtain ⟨D, qb, qi, h1, _⟩ := h; exact (Pq.cells h1).2.2
theorem of_image {l : List Int} (h : loadOk l) : (Dk.of l).image = l := by
  unfold Dk.image
  rw [if_neg (by simp [Dk.of])]
  exact (of_flatten h).1
end
end Go.Proofs.Ytghnbbpoaeheaaa

/- DiskLoads, walked. -/
namespace Go.Proofs.Ytghnbbpoaeheaaa
open Go.RowKit

theorem ActsAt.old {W w : World} {ov : Value} {acts : List ActD} (h : ActsAt W ov acts) (hk : Keep (Old W) W w) : ActsAt w ov acts := by
  obtain ⟨x, cap, hv, h2, h3, h4⟩ := h
  refine ⟨x, cap, hv, h2, fun hne => ?_, fun d hd => (h4 d hd).old hk⟩
  obtain ⟨bb, o, e, hr⟩ := h3 hne
  exact ⟨bb, o, e, fun i d hd => hk.oldRange (hr i d hd)⟩
theorem run_start {W w : World} {d r bk pr : Nat} {l : List Int} {b : Value} (h : Pr W d r bk pr (Dk.of l) ([] ++ [(b, l)]) [] w) (hl : l.length ≤ 2000000) : Run W d r bk pr 0 w :=
  ⟨_, _, _, h, by simp [Dk.of], by simp, by simp, fun e he => by
    obtain rfl : e = (b, l) := by simpa using he
    exact hl, fun e he => by cases he⟩
theorem size_alloc1 (w : World) (x : Obj) : (w.alloc x).heap.size = w.heap.size + 1 := by simp
theorem run_build53 (w : World) : (Instr.build 53 #[]).run Try.prog w = .ok (.agg bkC) w := by kernel_rfl
set_option maxRecDepth 100000 in
set_option maxHeartbeats 4000000 in
theorem loads_any {W : World} {iv ov : Value} {l : List Int} {acts : List ActD} (hi : BytesAt W iv l) (ho : ActsAt W ov acts) :
    Calls Try.prog 3 #[iv, ov] W (Gives fun v w' => v = .bool true ∧ Keep (Old W) W w') := by
  have HI := Lib.hid hi
  have HO := Lib.hid ho
  obtain ⟨ia, ic, rfl, -, -, -⟩ := hi
  obtain ⟨oa, oc, rfl, -, -, -⟩ := ho
  by_cases hbig : (4000000 : Int) < l.length
  · generalize l.length = n at *
    go_enter Try.func3, Try.ntmps3
    go_wp2
    go_ret
    exact ⟨_, rfl, rfl, Keep.refl _ _⟩
  · have HLN : Hid (l.length ≤ 1000000000) := (by omega : l.length ≤ 1000000000)
    have HLT := Lib.hid (ld_lent HI.out HLN.out)
    by_cases hok : loadOk l
    · by_cases hlong : (40 : Int) < acts.length
      · generalize acts.length = an at *
        go_enter Try.func3, Try.ntmps3
        go_wp2_with (first
          | (go_at_call 11; go_must (refine (HLT.out).mono ?_); rintro e w1 ⟨s, rfl, g, hv⟩; have H1 := Lib.hid hv; clear hv)
          | (go_at_call 12; go_must (refine (ld_ok H1.out hok).mono ?_); rintro e w2 ⟨v, rfl, d, rfl, hv⟩; have H2 := Lib.hid hv; clear hv)
          | (go_at_call 13; go_must (refine (rld_ok H2.out HI.out hok).mono ?_); rintro e w3 ⟨v, rfl, r, rfl, hv⟩; have H3 := Lib.hid hv; clear hv)
          | (go_at_call 14; go_must (refine (Kr.whole H3.out HI.out HLN.out).mono ?_); rintro e w4 ⟨v, rfl, rfl, hv⟩; have H4 := Lib.hid hv; clear hv)
          | (go_at_call 15; go_must (refine (Kr.spoil H4.out).mono ?_); rintro e w5 ⟨v, rfl, rfl, hv⟩; have H5 := Lib.hid hv; clear hv)
          | (go_at_call 16; go_must (refine (known4_any _).mono ?_); rintro e w6 ⟨v, rfl, rfl, hv⟩; have H6 := Lib.hid (H5.out.past hv); clear hv))
        go_ret
        exact ⟨_, rfl, rfl, H6.out.kept⟩
      · have HM4 : Hid (∀ (w : World) (hk : Keep (Old W) W w), Calls Try.prog 17 #[.int .i64 (Int.tdiv l.length 128), .slice oa acts.length oc] w (Gives (Much4Post w acts))) := fun w hk =>
          much4_any (Int.tdiv l.length 128) (by rw [Int.tdiv_eq_ediv_of_nonneg (by omega)]; unfold loadOk at hok; omega) (ActsAt.old HO.out hk) (by omega)
        have HBX : Hid (∀ w d r b, Kr W d r (Dk.of l) [byP b l] w → Pq W d r w.heap.size (w.alloc (.cells #[.slice none 0 0, .slice none 0 0, .slice none 0 0, .slice none 0 0, .slice none 0 0, .slice none 0 0, .slice none 0 0, .slice none 0 0, .slice none 0 0, .slice none 0 0, .slice none 0 0, .slice none 0 0] 53)).heap.size (Dk.of l) [] [] [byP b l] ((w.alloc (.cells #[.slice none 0 0, .slice none 0 0, .slice none 0 0, .slice none 0 0, .slice none 0 0, .slice none 0 0, .slice none 0 0, .slice none 0 0, .slice none 0 0, .slice none 0 0, .slice none 0 0, .slice none 0 0] 53)).alloc (.cells #[.pointer (some ⟨d, 0, none⟩), .pointer (some ⟨r, 0, none⟩), .pointer (some ⟨w.heap.size, 0, none⟩)] 55))) := fun w d r b h => h.boxes
        have HL2 : Hid (l.length ≤ 2000000) := (by unfold loadOk at hok; omega : l.length ≤ 2000000)
        have HIM : Hid ((Dk.of l).image = l) := of_image hok
        have hq := run_build53
        simp only [bkC] at hq
        go_enter Try.func3, Try.ntmps3
        go_wp2_with (first
          | (go_at_call 11; go_must (refine (HLT.out).mono ?_); rintro e w1 ⟨s, rfl, g, hv⟩; have H1 := Lib.hid hv; clear hv)
          | (go_at_call 12; go_must (refine (ld_ok H1.out hok).mono ?_); rintro e w2 ⟨v, rfl, d, rfl, hv⟩; have H2 := Lib.hid hv; clear hv)
          | (go_at_call 13; go_must (refine (rld_ok H2.out HI.out hok).mono ?_); rintro e w3 ⟨v, rfl, r, rfl, hv⟩; have H3 := Lib.hid hv; clear hv)
          | (go_at_call 14; go_must (refine (Kr.whole H3.out HI.out HLN.out).mono ?_); rintro e w4 ⟨v, rfl, rfl, hv⟩; have H4 := Lib.hid hv; clear hv)
          | (go_at_call 15; go_must (refine (Kr.spoil H4.out).mono ?_); rintro e w5 ⟨v, rfl, rfl, hv⟩; have H5 := Lib.hid hv; clear hv)
          | (go_at_call 16; go_must (refine (known4_any _).mono ?_); rintro e w6 ⟨v, rfl, rfl, hv⟩; have H6 := Lib.hid (H5.out.past hv); clear hv)
          | (go_at_call 17; go_must (refine (HM4.out _ H6.out.kept).mono ?_); rintro e w7 ⟨v, rfl, c, rfl, hk, hc⟩; have H7 := Lib.hid (H6.out.quiet hk); have HC := Lib.hid hc; clear hk hc)
          | (go_at_call 18; go_must (refine (Kr.image H7.out).mono ?_); rintro e w8 ⟨b, rfl, hv⟩; rw [HIM.out] at hv; have H8 := Lib.hid hv; clear hv)
          | (go_at_call 19; go_must (refine (Kr.same H8.out HI.out).mono ?_); rintro e w9 ⟨v, rfl, rfl, hv⟩; have H9 := Lib.hid (HBX.out _ _ _ _ hv); have p2 := (Pq.cells H9.out).2.2; clear hv)
          | (go_at_call 20; go_must (refine (Pq.bookB H9.out (Nat.zero_le _)).mono ?_); rintro e w10 ⟨v, rfl, rfl, hv⟩; have HR0 := Lib.hid (run_start (Pq.toPr hv) HL2.out); clear hv))
        · go_ret
          exact ⟨_, rfl, rfl, H7.out.kept⟩
        · have HCF : Hid (∀ d ∈ acts, d.bl.length ≤ 4000000 ∧ d.kl.length ≤ 4000000) := HC.out (by simp_all)
          have hsz := size_alloc1 w9 (.cells #[.slice none 0 0, .slice none 0 0, .slice none 0 0, .slice none 0 0, .slice none 0 0, .slice none 0 0, .slice none 0 0, .slice none 0 0, .slice none 0 0, .slice none 0 0, .slice none 0 0, .slice none 0 0] 53)
          rw [hsz] at HR0
          clear hsz p2 H9
          generalize w9.heap.size + 1 = pr at *
          generalize w9.heap.size = bk at *
          clear H8 H7 H6 H5 H4 H3 H2 H1 HC HBX HM4 HIM HLT hq
          go_loopw [13] (fun t wr => ∃ i : Nat, i ≤ acts.length ∧ t = .int .i64 i ∧ Run W d r bk pr i wr) (fun t _ => acts.length - (intOf t).toNat)
          case atStart => exact ⟨0, Nat.zero_le _, rfl, HR0.out⟩
          case round =>
            obtain ⟨i, hi, rfl, hrun⟩ := hrel
            by_cases hlt : i < acts.length
            · obtain ⟨x, hx⟩ : ∃ x, acts[i]? = some x := ⟨_, List.getElem?_eq_getElem hlt⟩
              obtain ⟨bb, o, cap, hv, hxa, hxc⟩ := HO.out.get hx
              simp only [Value.slice.injEq, true_and] at hv
              obtain ⟨rfl, rfl⟩ := hv
              obtain ⟨hb1, hb2⟩ := HCF.out x (List.mem_of_getElem? hx)
              have HD := Lib.hid (hrun.does (by omega) hxa hb1 hb2)
              obtain ⟨⟨x0, x1⟩, x2, x3⟩ := act_cells (hxc _ hrun.kept)
              obtain ⟨ba, bcap, hbv, -, -, -⟩ := hxa.b
              obtain ⟨ka, kcap, hkv, -, -⟩ := hxa.k
              rw [hbv] at x2
              rw [hkv] at x3
              rw [hbv, hkv] at HD
              generalize x.kind = kk at *
              generalize x.at_ = aa at *
              generalize x.bl.length = bn at *
              generalize x.kl.length = kn at *
              clear hx hxa hxc hbv hkv hrun hb1 hb2
              go_wp2_with (go_at_call 21; go_must (refine (HD.out).mono ?_); rintro e wb ⟨v, rfl, rfl, hv⟩; have HN := Lib.hid hv; clear hv)
              exact ⟨⟨i + 1, by omega, by go_num, HN.out⟩, by simp [intOf]; omega⟩
            · have HW := Lib.hid (hrun.own (by omega))
              have q2 := hrun.cells
              clear hrun
              go_wp2_with (go_at_call 22; go_must (refine (HW.out).mono ?_); rintro e wb ⟨v, rfl, rfl, hv⟩; have HN := Lib.hid hv; clear hv)
              go_ret
              exact ⟨_, rfl, rfl, HN.out⟩
    · go_enter Try.func3, Try.ntmps3
      go_wp2_with (first
        | (go_at_call 11; go_must (refine (HLT.out).mono ?_); rintro e w1 ⟨s, rfl, g, hv⟩; have H1 := Lib.hid hv; clear hv)
        | (go_at_call 12; go_must (refine (ld_bad H1.out hok).mono ?_); rintro e w2 ⟨v, rfl, rfl, hv⟩; have H2 := Lib.hid hv; clear hv)
        | (go_at_call 13; go_must (refine (rld_bad H2.out HI.out hok).mono ?_); rintro e w3 ⟨v, rfl, rfl, hv⟩; have H3 := Lib.hid hv; clear hv)
        | (go_at_call 14; go_must (refine (ld_whole H3.out HI.out HLN.out).mono ?_); rintro e w4 ⟨v, rfl, rfl, hv⟩; have H4 := Lib.hid hv; clear hv)
        | (go_at_call 15; go_must (refine (ld_spoil H4.out).mono ?_); rintro e w5 ⟨v, rfl, rfl, hv⟩; have H5 := Lib.hid hv; clear hv)
        | (go_at_call 16; go_must (refine (known4_any _).mono ?_); rintro e w6 ⟨v, rfl, rfl, hv⟩; have H6 := Lib.hid (H5.out.past hv); clear hv))
      go_ret
      exact ⟨_, rfl, rfl, H6.out.kept⟩
end Go.Proofs.Ytghnbbpoaeheaaa
