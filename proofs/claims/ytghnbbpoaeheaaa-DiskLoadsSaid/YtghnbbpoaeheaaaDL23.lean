/- One act at both disks: what it leaves; read. -/
import Derived.Test.YtghnbbpoaeheaaaDL21
import Derived.Test.YtghnbbpoaeheaaaDL22
import Derived.StillTailTactics
import Derived.Deep.QuietTactic
import Derived.IntWalk
namespace Go.Proofs.Ytghnbbpoaeheaaa
open Go.RowKit

def Pr (W : World) (d r bk pr : Nat) (D : Dk) (qb qi : List (Value × List Int)) (w : World) : Prop :=
  ∃ F1 F2 F3, All W [dkP d D F1, rfP r D F2, bkP bk qb qi F3, ceP pr (prC ⟨d, r, bk, pr, 0⟩) 55] w
section
variable {W w : World} {d r bk pr ga : Nat} {D D1 D2 : Dk} {qb qi : List (Value × List Int)} {x : ActD} {L : List Part}
theorem Pr.box (h : Pr W d r bk pr D qb qi w) (x : ActD) : St W ⟨d, r, bk, pr, w.heap.size⟩ x D D qb qi [] (w.alloc (.cells (gaC x) 59)) := by
  obtain ⟨F1, F2, F3, h⟩ := h
  exact ⟨F1, F2, F3, (h.cells (gaC x) 59).perm (List.perm_middle (l₁ := [_, _, _, _])).symm⟩
theorem St.toPr (h : St W ⟨d, r, bk, pr, ga⟩ x D D qb qi L w) : Pr W d r bk pr D qb qi w := by
  obtain ⟨F1, F2, F3, h1, h2, h3, h4⟩ := h
  have hsub : List.Sublist [dkP d D F1, rfP r D F2, bkP bk qb qi F3, ceP pr (prC ⟨d, r, bk, pr, 0⟩) 55] (dkP d D F1 :: rfP r D F2 :: bkP bk qb qi F3 :: ceP pr (prC ⟨d, r, bk, pr, 0⟩) 55 :: ceP ga (gaC x) 59 :: L) :=
    (((((List.nil_sublist _).cons_cons _).cons_cons _).cons_cons _).cons_cons _)
  exact ⟨F1, F2, F3, fun p hp => h1 p (hsub.subset hp), h2.sublist hsub, fun p hp => h3 p (hsub.subset hp), h4⟩
variable {kind at_ : Int} {bv kv : Value} {bl : List Int} {kl : List Bool}
theorem St.cells' (h : St W ⟨d, r, bk, pr, ga⟩ ⟨kind, at_, bv, bl, kv, kl⟩ D1 D2 qb qi L w) : (w.cell? ⟨pr, 0, none⟩ = some (.pointer (some ⟨d, 0, none⟩)) ∧ w.cell? ⟨pr, 1, none⟩ = some (.pointer (some ⟨r, 0, none⟩)) ∧ w.cell? ⟨pr, 2, none⟩ = some (.pointer (some ⟨bk, 0, none⟩))) ∧
    w.cell? ⟨ga, 0, none⟩ = some (.int .u8 kind) ∧ w.cell? ⟨ga, 1, none⟩ = some (.int .i64 at_) ∧ w.cell? ⟨ga, 2, none⟩ = some bv ∧ w.cell? ⟨ga, 3, none⟩ = some kv := h.cells
theorem St.failed' (h : St W ⟨d, r, bk, pr, ga⟩ x D1 D2 qb qi L w) : w.cell? ⟨r, 2, none⟩ = some (.bool D2.failed) := h.failed
end
/-- What an act leaves. -/
structure Left (D : Dk) (qb qi : List (Value × List Int)) (D' : Dk) (qb' qi' : List (Value × List Int)) : Prop where
  c : D'.cache.length ≤ D.cache.length + 1
  nb : qb'.length ≤ qb.length + 1
  ni : qi'.length ≤ qi.length + 1
  b : ∀ e ∈ qb', e ∈ qb ∨ e.2.length ≤ 2000000
  i : ∀ e ∈ qi', e ∈ qi ∨ e.2.length ≤ D.cache.length
def DoesPost (W : World) (d r bk pr : Nat) (D : Dk) (qb qi : List (Value × List Int)) (v : Value) (w' : World) : Prop :=
  v = .bool true ∧ ∃ D' qb' qi', Pr W d r bk pr D' qb' qi' w' ∧ Left D qb qi D' qb' qi'
theorem get_length {D : Dk} (h : D.Ok) (i : Nat) : (D.get i).length ≤ 128 := by
  unfold Dk.get
  cases hc : cached D.cache i with
  | some e => exact Nat.le_of_eq (h.ent _ (cached_mem hc)).2
  | none =>
    show (D.las.getD i []).length ≤ 128
    rw [List.getD_eq_getElem?_getD]
    cases hi : D.las[i]? with
    | none => simp
    | some e => exact Nat.le_of_eq (h.sec _ (List.mem_of_getElem? hi))
theorem read_length {D : Dk} (h : D.Ok) (a : Int) : (D.read a).length ≤ 2000000 := by
  unfold Dk.read
  split
  · have := get_length h a.toNat; omega
  · simp
theorem image_length {D : Dk} (h : D.Ok) : D.image.length ≤ 2000000 := by
  unfold Dk.image
  split
  · simp
  · have := flatten_length D.las h.sec
    have := h.le
    omega
theorem code_le (D : Dk) (a : Int) : 0 ≤ D.code a ∧ D.code a ≤ 4 := by
  unfold Dk.code; split; · omega
  split <;> omega
theorem wcode_le (D : Dk) (a : Int) (n : Nat) : 0 ≤ D.wcode a n ∧ D.wcode a n ≤ 4 := by
  unfold Dk.wcode; split; · split <;> omega
  exact code_le D a
theorem fcode_le (D : Dk) : 0 ≤ D.fcode ∧ D.fcode ≤ 4 := by unfold Dk.fcode; split <;> omega
theorem Left.snocB {D : Dk} {qb qi : List (Value × List Int)} {s : Value} {l : List Int} (hl : l.length ≤ 2000000) : Left D qb qi D (qb ++ [(s, l)]) qi :=
  ⟨by omega, by simp, by omega, fun e he => by
    rcases List.mem_append.1 he with he | he
    · exact .inl he
    · obtain rfl : e = (s, l) := by simpa using he
      exact .inr hl, fun _ he => .inl he⟩
theorem Left.snocI {D : Dk} {qb qi : List (Value × List Int)} {s : Value} {l : List Int} (hl : l.length ≤ D.cache.length) : Left D qb qi D qb (qi ++ [(s, l)]) :=
  ⟨by omega, by omega, by simp, fun _ he => .inl he, fun e he => by
    rcases List.mem_append.1 he with he | he
    · exact .inl he
    · obtain rfl : e = (s, l) := by simpa using he
      exact .inr hl⟩
theorem Left.disk {D D' : Dk} {qb qi : List (Value × List Int)} (h : D'.cache.length ≤ D.cache.length + 1) : Left D qb qi D' qb qi := ⟨h, by omega, by omega, fun _ he => .inl he, fun _ he => .inl he⟩

section
variable {W w : World} {d r bk pr : Nat} {D : Dk} {qb qi : List (Value × List Int)} {kind at_ : Int} {ba ka : Option Addr} {bcap kcap : Nat} {bl : List Int} {kl : List Bool}
set_option maxRecDepth 100000 in
set_option maxHeartbeats 2000000 in
theorem does_read (h : Pr W d r bk pr D qb qi w) (hk : 0 ≤ kind ∧ kind ≤ 255) (hm : kind % 9 = 0) (hc : D.cache.length ≤ 1000000) (hqb : qb.length ≤ 1000) :
    Calls Try.prog 21 #[.pointer (some ⟨pr, 0, none⟩), .agg #[.int .u8 kind, .int .i64 at_, .slice ba bl.length bcap, .slice ka kl.length kcap]] w (Gives (DoesPost W d r bk pr D qb qi)) := by
  have HS : Hid (St W ⟨d, r, bk, pr, w.heap.size⟩ ⟨kind, at_, .slice ba bl.length bcap, bl, .slice ka kl.length kcap, kl⟩ D D qb qi [] (w.alloc (.cells #[.int .u8 kind, .int .i64 at_, .slice ba bl.length bcap, .slice ka kl.length kcap] 59))) := h.box _
  have HSD := Lib.hid (HS.out.quiet (Keep.drew _ _))
  obtain ⟨⟨c0, c1, c2⟩, a0, a1, a2, a3⟩ := HS.out.cells'
  have hm0 : Int.tmod kind 9 = 0 := by rw [Int.tmod_eq_emod_of_nonneg hk.1]; exact hm
  have HCD : Hid (∀ b, b = D.code at_ → 0 ≤ b ∧ b ≤ 4) := fun b hb => by subst hb; exact code_le D at_
  have hok := HS.out.ok1
  clear h
  go_enter Try.func21, Try.ntmps21
  go_wp2
  generalize w.alloc (.cells #[.int .u8 kind, .int .i64 at_, .slice ba bl.length bcap, .slice ka kl.length kcap] 59) = wa at *
  generalize w.heap.size = ga at *
  go_region_held3 (fun w' => w'.cell? ⟨pr, 0, none⟩ = some (.pointer (some ⟨d, 0, none⟩)) ∧ w'.cell? ⟨ga, 1, none⟩ = some (.int .i64 at_)) (go_keep)
    (first | (go_at_call 36; go_must (refine (St.read HSD.out at_).mono ?_); rintro e wb ⟨v, rfl, s, rfl, hv⟩; have H1 := Lib.hid hv; obtain ⟨⟨d0, d1, d2⟩, e0, e1, e2, e3⟩ := St.cells' hv; clear hv))
  all_goals
    go_wp2
    have HSD2 := Lib.hid (H1.out.quiet (Keep.drew _ _))
    go_region_held3 (fun w' => w'.cell? ⟨pr, 1, none⟩ = some (.pointer (some ⟨r, 0, none⟩)) ∧ w'.cell? ⟨ga, 1, none⟩ = some (.int .i64 at_)) (go_keep)
      (first | (go_at_call 53; go_must (refine (St.rread HSD2.out at_ hc).mono ?_); rintro e wc ⟨v, rfl, t, rfl, hv⟩; have H2 := Lib.hid (St.turn hv); obtain ⟨⟨f0, f1, f2⟩, g0, g1, g2, g3⟩ := St.cells' hv; clear hv))
  all_goals
    have hb := HCD.out _ rfl
    have hw : IntKind.i64.wrap (D.code at_) = D.code at_ := IntWalk.i64_in _ (by omega)
    generalize D.code at_ = code at *
    have hrl := Lib.hid (read_length hok at_)
    generalize D.read at_ = l at *
    go_wp2_with (first
      | (go_at_call 20; go_must (refine (St.bookB H2.out (by omega)).mono ?_); rintro e wd ⟨v, rfl, rfl, hv⟩; have H3 := Lib.hid hv; clear hv)
      | (go_at_call 19; go_must (refine (St.same H3.out (H3.out.byQ (l := l) (by simp)) (H3.out.byL (.head _))).mono ?_); rintro e we ⟨v, rfl, rfl, hv⟩; have H4 := Lib.hid hv; clear hv))
    go_ret
    exact ⟨_, rfl, rfl, _, _, _, H4.out.toPr, Left.snocB hrl.out⟩
end
end Go.Proofs.Ytghnbbpoaeheaaa

/- One act at both disks: write, flush, crash. -/
namespace Go.Proofs.Ytghnbbpoaeheaaa
open Go.RowKit

theorem write_cache_le (D : Dk) (a : Int) (b : List Int) : (D.write a b).cache.length ≤ D.cache.length + 1 := by unfold Dk.write; split <;> simp
theorem flush_cache_le (D : Dk) : D.flush.cache.length ≤ D.cache.length + 1 := by unfold Dk.flush; split; · omega
                                                                                  · simp [Dk.settle]
section
variable {W w : World} {d r bk pr : Nat} {D : Dk} {qb qi : List (Value × List Int)} {kind at_ : Int} {ba ka : Option Addr} {bcap kcap : Nat} {bl : List Int} {kl : List Bool}
set_option maxRecDepth 100000 in
set_option maxHeartbeats 4000000 in
theorem does_write (h : Pr W d r bk pr D qb qi w) (hx : ActAt W ⟨kind, at_, .slice ba bl.length bcap, bl, .slice ka kl.length kcap, kl⟩) (hbl : bl.length ≤ 4000000) (hm : kind % 9 = 1 ∨ kind % 9 = 2) (hc : D.cache.length ≤ 1000000) :
    Calls Try.prog 21 #[.pointer (some ⟨pr, 0, none⟩), .agg #[.int .u8 kind, .int .i64 at_, .slice ba bl.length bcap, .slice ka kl.length kcap]] w (Gives (DoesPost W d r bk pr D qb qi)) := by
  have HS : Hid (St W ⟨d, r, bk, pr, w.heap.size⟩ ⟨kind, at_, .slice ba bl.length bcap, bl, .slice ka kl.length kcap, kl⟩ D D qb qi [] (w.alloc (.cells #[.int .u8 kind, .int .i64 at_, .slice ba bl.length bcap, .slice ka kl.length kcap] 59))) := h.box _
  obtain ⟨⟨c0, c1, c2⟩, a0, a1, a2, a3⟩ := HS.out.cells'
  have hk := hx.kind
  have hm0 : Int.tmod kind 9 = 1 ∨ Int.tmod kind 9 = 2 := by rw [Int.tmod_eq_emod_of_nonneg hk.1]; exact hm
  have HB : Hid (BytesAt W (.slice ba bl.length bcap) bl) := hx.b
  have hb := wcode_le D at_ bl.length
  have hw : IntKind.i64.wrap (D.wcode at_ bl.length) = D.wcode at_ bl.length := IntWalk.i64_in _ (by omega)
  clear h hx hm
  rcases hm0 with hm0 | hm0
  all_goals
    go_enter Try.func21, Try.ntmps21
    go_wp2_with fail
    generalize w.alloc (.cells #[.int .u8 kind, .int .i64 at_, .slice ba bl.length bcap, .slice ka kl.length kcap] 59) = wa at *
    generalize w.heap.size = ga at *
    go_wp2_with (first
      | (go_at_call 11; go_must (refine (St.lent HS.out (HB.out.old HS.out.kept) (by omega)).mono ?_); rintro e wb ⟨s, rfl, g, hv⟩; have H1 := Lib.hid hv; obtain ⟨⟨d0, d1, d2⟩, e0, e1, e2, e3⟩ := St.cells' hv; clear hv))
    go_still_tail 7, (by kernel_rfl)
    change wpList _ _ _ _ _ wb.drew
    have HSD := Lib.hid (H1.out.quiet (Keep.drew _ _))
    clear H1
    generalize wb.drew = wbd at *
    go_wp2_with (first
      | (go_at_call 37; go_must (refine (St.write HSD.out at_ HSD.out.ln.bytes hc).mono ?_); rintro e wc ⟨v, rfl, rfl, hv⟩; have H2 := Lib.hid hv; obtain ⟨⟨f0, f1, f2⟩, g0, g1, g2, g3⟩ := St.cells' hv; clear hv))
    go_still_tail 8, (by kernel_rfl)
    change wpList _ _ _ _ _ wc.drew
    have HSD2 := Lib.hid (H2.out.quiet (Keep.drew _ _))
    obtain ⟨⟨f0', f1', f2'⟩, g0', g1', g2', g3'⟩ := St.cells' HSD2.out
    clear H2 HSD
    generalize wc.drew = wcd at *
    go_wp2_with (first
      | (go_at_call 54; go_must (refine (St.rwrite HSD2.out at_ (HB.out.old HSD2.out.kept) hc).mono ?_); rintro e wd ⟨v, rfl, rfl, hv⟩; have H3 := Lib.hid hv; obtain ⟨⟨i0, i1, i2⟩, j0, j1, j2, j3⟩ := St.cells' hv; clear hv)
      | (go_at_call 14; go_must (refine (St.whole H3.out (HB.out.old H3.out.kept) (by omega)).mono ?_); rintro e we ⟨v, rfl, rfl, hv⟩; have H4 := Lib.hid hv; clear hv)
      | (go_at_call 15; go_must (refine (St.spoil H4.out).mono ?_); rintro e wf ⟨v, rfl, rfl, hv⟩; have H5 := Lib.hid hv; clear hv))
    go_ret
    exact ⟨_, rfl, rfl, _, _, _, H5.out.toPr, Left.disk (write_cache_le _ _ _)⟩
set_option maxRecDepth 100000 in
set_option maxHeartbeats 4000000 in
theorem does_flush (h : Pr W d r bk pr D qb qi w) (hk : 0 ≤ kind ∧ kind ≤ 255) (hm : kind % 9 = 3) (hc : D.cache.length ≤ 1000000) :
    Calls Try.prog 21 #[.pointer (some ⟨pr, 0, none⟩), .agg #[.int .u8 kind, .int .i64 at_, .slice ba bl.length bcap, .slice ka kl.length kcap]] w (Gives (DoesPost W d r bk pr D qb qi)) := by
  have HS : Hid (St W ⟨d, r, bk, pr, w.heap.size⟩ ⟨kind, at_, .slice ba bl.length bcap, bl, .slice ka kl.length kcap, kl⟩ D D qb qi [] (w.alloc (.cells #[.int .u8 kind, .int .i64 at_, .slice ba bl.length bcap, .slice ka kl.length kcap] 59))) := h.box _
  obtain ⟨⟨c0, c1, c2⟩, a0, a1, a2, a3⟩ := HS.out.cells'
  have hm0 : Int.tmod kind 9 = 3 := by rw [Int.tmod_eq_emod_of_nonneg hk.1]; exact hm
  have hb := fcode_le D
  have hw : IntKind.i64.wrap D.fcode = D.fcode := IntWalk.i64_in _ (by omega)
  clear h hm
  go_enter Try.func21, Try.ntmps21
  go_wp2_with (first
    | (go_at_call 38; go_must (refine (St.flush HS.out hc).mono ?_); rintro e wc ⟨v, rfl, rfl, hv⟩; have H2 := Lib.hid hv; obtain ⟨⟨f0, f1, f2⟩, g0, g1, g2, g3⟩ := St.cells' hv; clear hv)
    | (go_at_call 55; go_must (refine (St.rflush H2.out hc).mono ?_); rintro e wd ⟨v, rfl, rfl, hv⟩; have H3 := Lib.hid hv; clear hv))
  go_ret
  exact ⟨_, rfl, rfl, _, _, _, H3.out.toPr, Left.disk (flush_cache_le _)⟩
set_option maxRecDepth 100000 in
set_option maxHeartbeats 4000000 in
theorem does_crash (h : Pr W d r bk pr D qb qi w) (hx : ActAt W ⟨kind, at_, .slice ba bl.length bcap, bl, .slice ka kl.length kcap, kl⟩) (hkl : kl.length ≤ 4000000) (hm : kind % 9 = 4) (hc : D.cache.length ≤ 1000000) :
    Calls Try.prog 21 #[.pointer (some ⟨pr, 0, none⟩), .agg #[.int .u8 kind, .int .i64 at_, .slice ba bl.length bcap, .slice ka kl.length kcap]] w (Gives (DoesPost W d r bk pr D qb qi)) := by
  have HS : Hid (St W ⟨d, r, bk, pr, w.heap.size⟩ ⟨kind, at_, .slice ba bl.length bcap, bl, .slice ka kl.length kcap, kl⟩ D D qb qi [] (w.alloc (.cells #[.int .u8 kind, .int .i64 at_, .slice ba bl.length bcap, .slice ka kl.length kcap] 59))) := h.box _
  obtain ⟨⟨c0, c1, c2⟩, a0, a1, a2, a3⟩ := HS.out.cells'
  have hm0 : Int.tmod kind 9 = 4 := by rw [Int.tmod_eq_emod_of_nonneg hx.kind.1]; exact hm
  have HK : Hid (BoolsAt W (.slice ka kl.length kcap) kl) := hx.k
  clear h hm hx
  go_enter Try.func21, Try.ntmps21
  go_wp2_with (first
    | (go_at_call 56; go_must (refine (St.lentB HS.out (HK.out.old HS.out.kept) (by omega)).mono ?_); rintro e wb ⟨s, rfl, g, hv⟩; have H1 := Lib.hid hv; obtain ⟨⟨d0, d1, d2⟩, e0, e1, e2, e3⟩ := St.cells' hv; clear hv)
    | (go_at_call 39; go_must (refine (St.crash H1.out hc).mono ?_); rintro e wc ⟨v, rfl, rfl, hv⟩; have H2 := Lib.hid hv; obtain ⟨⟨f0, f1, f2⟩, g0, g1, g2, g3⟩ := St.cells' hv; clear hv))
  go_still_tail 6, (by kernel_rfl)
  change wpList _ _ _ _ _ wc.drew
  have HSD2 := Lib.hid (H2.out.quiet (Keep.drew _ _))
  obtain ⟨⟨f0', f1', f2'⟩, g0', g1', g2', g3'⟩ := St.cells' HSD2.out
  clear H2 H1
  generalize wc.drew = wcd at *
  go_wp2_with (first
    | (go_at_call 57; go_must (refine (St.rcrash HSD2.out HK.out hc).mono ?_); rintro e wd ⟨v, rfl, rfl, hv⟩; have H3 := Lib.hid hv; obtain ⟨⟨i0, i1, i2⟩, j0, j1, j2, j3⟩ := St.cells' hv; clear hv)
    | (go_at_call 58; go_must (refine (St.wholeB H3.out (HK.out.old H3.out.kept) (by omega)).mono ?_); rintro e we ⟨v, rfl, rfl, hv⟩; have H4 := Lib.hid hv; clear hv)
    | (go_at_call 59; go_must (refine (St.spoilB H4.out).mono ?_); rintro e wf ⟨v, rfl, rfl, hv⟩; have H5 := Lib.hid hv; clear hv))
  go_ret
  exact ⟨_, rfl, rfl, _, _, _, H5.out.toPr, Left.disk (by simp [Dk.crash, Dk.settle])⟩
end
end Go.Proofs.Ytghnbbpoaeheaaa

/- One act at both disks: pending, image. -/
namespace Go.Proofs.Ytghnbbpoaeheaaa
open Go.RowKit

theorem pending_length (D : Dk) : D.pending.length ≤ D.cache.length := by unfold Dk.pending; first | simp | (split <;> simp)
section
variable {W w : World} {d r bk pr : Nat} {D : Dk} {qb qi : List (Value × List Int)} {kind at_ : Int} {ba ka : Option Addr} {bcap kcap : Nat} {bl : List Int} {kl : List Bool}
set_option maxRecDepth 100000 in
set_option maxHeartbeats 4000000 in
theorem does_pending (h : Pr W d r bk pr D qb qi w) (hk : 0 ≤ kind ∧ kind ≤ 255) (hm : kind % 9 = 5) (hc : D.cache.length ≤ 1000000) (hqi : qi.length ≤ 1000) :
    Calls Try.prog 21 #[.pointer (some ⟨pr, 0, none⟩), .agg #[.int .u8 kind, .int .i64 at_, .slice ba bl.length bcap, .slice ka kl.length kcap]] w (Gives (DoesPost W d r bk pr D qb qi)) := by
  have HS : Hid (St W ⟨d, r, bk, pr, w.heap.size⟩ ⟨kind, at_, .slice ba bl.length bcap, bl, .slice ka kl.length kcap, kl⟩ D D qb qi [] (w.alloc (.cells #[.int .u8 kind, .int .i64 at_, .slice ba bl.length bcap, .slice ka kl.length kcap] 59))) := h.box _
  obtain ⟨⟨c0, c1, c2⟩, a0, a1, a2, a3⟩ := HS.out.cells'
  have hm0 : Int.tmod kind 9 = 5 := by rw [Int.tmod_eq_emod_of_nonneg hk.1]; exact hm
  have hpl := Lib.hid (pending_length D)
  clear h hm
  go_enter Try.func21, Try.ntmps21
  go_wp2_with (first
    | (go_at_call 52; go_must (refine (St.pending HS.out hc).mono ?_); rintro e wc ⟨v, rfl, hv⟩; have H2 := Lib.hid hv; obtain ⟨⟨f0, f1, f2⟩, g0, g1, g2, g3⟩ := St.cells' hv; clear hv)
    | (go_at_call 60; go_must (refine (St.bookI H2.out (by omega)).mono ?_); rintro e wd ⟨v, rfl, rfl, hv⟩; have H3 := Lib.hid hv; obtain ⟨⟨i0, i1, i2⟩, j0, j1, j2, j3⟩ := St.cells' hv; clear hv)
    | (go_at_call 61; go_must (refine (St.rpending H3.out hc).mono ?_); rintro e we ⟨v, rfl, hv⟩; have H4 := Lib.hid hv; clear hv)
    | (go_at_call 50; go_must (refine (St.sameI H4.out (H4.out.inQ (l := D.pending) (by simp)) (H4.out.inL (.head _))).mono ?_); rintro e wf ⟨v, rfl, rfl, hv⟩; have H5 := Lib.hid hv; clear hv))
  go_ret
  exact ⟨_, rfl, rfl, _, _, _, H5.out.toPr, Left.snocI hpl.out⟩
set_option maxRecDepth 100000 in
set_option maxHeartbeats 4000000 in
theorem does_image (h : Pr W d r bk pr D qb qi w) (hk : 0 ≤ kind ∧ kind ≤ 255) (hm : kind % 9 = 6) (hqb : qb.length ≤ 1000) :
    Calls Try.prog 21 #[.pointer (some ⟨pr, 0, none⟩), .agg #[.int .u8 kind, .int .i64 at_, .slice ba bl.length bcap, .slice ka kl.length kcap]] w (Gives (DoesPost W d r bk pr D qb qi)) := by
  have HS : Hid (St W ⟨d, r, bk, pr, w.heap.size⟩ ⟨kind, at_, .slice ba bl.length bcap, bl, .slice ka kl.length kcap, kl⟩ D D qb qi [] (w.alloc (.cells #[.int .u8 kind, .int .i64 at_, .slice ba bl.length bcap, .slice ka kl.length kcap] 59))) := h.box _
  obtain ⟨⟨c0, c1, c2⟩, a0, a1, a2, a3⟩ := HS.out.cells'
  have hm0 : Int.tmod kind 9 = 6 := by rw [Int.tmod_eq_emod_of_nonneg hk.1]; exact hm
  have hpl := Lib.hid (image_length HS.out.ok1)
  clear h hm
  go_enter Try.func21, Try.ntmps21
  go_wp2_with (first
    | (go_at_call 18; go_must (refine (St.image HS.out).mono ?_); rintro e wc ⟨v, rfl, hv⟩; have H2 := Lib.hid hv; obtain ⟨⟨f0, f1, f2⟩, g0, g1, g2, g3⟩ := St.cells' hv; clear hv)
    | (go_at_call 20; go_must (refine (St.bookB H2.out (by omega)).mono ?_); rintro e wd ⟨v, rfl, rfl, hv⟩; have H3 := Lib.hid hv; obtain ⟨⟨i0, i1, i2⟩, j0, j1, j2, j3⟩ := St.cells' hv; clear hv)
    | (go_at_call 62; go_must (refine (St.rimage H3.out).mono ?_); rintro e we ⟨v, rfl, hv⟩; have H4 := Lib.hid hv; clear hv)
    | (go_at_call 19; go_must (refine (St.same H4.out (H4.out.byQ (l := D.image) (by simp)) (H4.out.byL (.head _))).mono ?_); rintro e wf ⟨v, rfl, rfl, hv⟩; have H5 := Lib.hid hv; clear hv))
  go_ret
  exact ⟨_, rfl, rfl, _, _, _, H5.out.toPr, Left.snocB hpl.out⟩
end
end Go.Proofs.Ytghnbbpoaeheaaa

/- One act at both disks: the end of both, and what they say of themselves. -/
namespace Go.Proofs.Ytghnbbpoaeheaaa
open Go.RowKit

theorem fail_cache_le (D : Dk) : D.fail.cache.length ≤ D.cache.length + 1 := by simp [Dk.fail]
section
variable {W w : World} {d r bk pr : Nat} {D : Dk} {qb qi : List (Value × List Int)} {kind at_ : Int} {ba ka : Option Addr} {bcap kcap : Nat} {bl : List Int} {kl : List Bool}
set_option maxRecDepth 100000 in
set_option maxHeartbeats 4000000 in
theorem does_end (h : Pr W d r bk pr D qb qi w) (hk : 0 ≤ kind ∧ kind ≤ 255) (hm : kind % 9 = 7 ∧ ¬ at_ = 77 ∨ kind % 9 = 8) :
    Calls Try.prog 21 #[.pointer (some ⟨pr, 0, none⟩), .agg #[.int .u8 kind, .int .i64 at_, .slice ba bl.length bcap, .slice ka kl.length kcap]] w (Gives (DoesPost W d r bk pr D qb qi)) := by
  have HS : Hid (St W ⟨d, r, bk, pr, w.heap.size⟩ ⟨kind, at_, .slice ba bl.length bcap, bl, .slice ka kl.length kcap, kl⟩ D D qb qi [] (w.alloc (.cells #[.int .u8 kind, .int .i64 at_, .slice ba bl.length bcap, .slice ka kl.length kcap] 59))) := h.box _
  obtain ⟨⟨c0, c1, c2⟩, a0, a1, a2, a3⟩ := HS.out.cells'
  have hb := HS.out.failed'
  have hm0 : Int.tmod kind 9 = 7 ∧ ¬ at_ = 77 ∨ Int.tmod kind 9 = 8 := by rw [Int.tmod_eq_emod_of_nonneg hk.1]; exact hm
  have H65 : ∀ nq, Calls Try.prog 65 #[.pointer (some ⟨d, 0, none⟩)] ((w.alloc (.cells #[.int .u8 kind, .int .i64 at_, .slice ba bl.length bcap, .slice ka kl.length kcap] 59)).drewN nq) fun e w' => e = .returned (.int .i64 D.las.length) ∧ w' = (w.alloc (.cells #[.int .u8 kind, .int .i64 at_, .slice ba bl.length bcap, .slice ka kl.length kcap] 59)).drewN nq := fun nq =>
    (St.sectors (HS.out.quiet (Keep.drewN NoF _ nq))).mono fun e w' hg => ⟨hg.1, hg.2.symm⟩
  have H66 : ∀ nq, Calls Try.prog 66 #[.pointer (some ⟨r, 0, none⟩)] ((w.alloc (.cells #[.int .u8 kind, .int .i64 at_, .slice ba bl.length bcap, .slice ka kl.length kcap] 59)).drewN nq) fun e w' => e = .returned (.int .i64 D.las.length) ∧ w' = (w.alloc (.cells #[.int .u8 kind, .int .i64 at_, .slice ba bl.length bcap, .slice ka kl.length kcap] 59)).drewN nq := fun nq =>
    (St.rsectors (HS.out.quiet (Keep.drewN NoF _ nq))).mono fun e w' hg => ⟨hg.1, hg.2.symm⟩
  have H67 : ∀ nq, Calls Try.prog 67 #[.pointer (some ⟨d, 0, none⟩)] ((w.alloc (.cells #[.int .u8 kind, .int .i64 at_, .slice ba bl.length bcap, .slice ka kl.length kcap] 59)).drewN nq) fun e w' => e = .returned (.bool D.failed) ∧ w' = (w.alloc (.cells #[.int .u8 kind, .int .i64 at_, .slice ba bl.length bcap, .slice ka kl.length kcap] 59)).drewN nq := fun nq =>
    (St.dfailed (HS.out.quiet (Keep.drewN NoF _ nq))).mono fun e w' hg => ⟨hg.1, hg.2.symm⟩
  have HN : Hid (∀ nq, Pr W d r bk pr D qb qi ((w.alloc (.cells #[.int .u8 kind, .int .i64 at_, .slice ba bl.length bcap, .slice ka kl.length kcap] 59)).drewN nq)) := fun nq => (HS.out.quiet (Keep.drewN NoF _ nq)).toPr
  clear h hm HS
  rcases hm0 with ⟨hm0, hat⟩ | hm0
  all_goals
    go_enter Try.func21, Try.ntmps21
    go_wp2_with fail
    generalize w.alloc (.cells #[.int .u8 kind, .int .i64 at_, .slice ba bl.length bcap, .slice ka kl.length kcap] 59) = wa at *
    generalize w.heap.size = ga at *
    go_wp2_with fail
    go_quiet ((first | (go_at_call 65; exact Calls.quiet_of_same (H65 _)) | (go_at_call 66; exact Calls.quiet_of_same (H66 _)) | (go_at_call 67; exact Calls.quiet_of_same (H67 _))))
    go_wp2
    go_ret
    refine ⟨_, rfl, by simp, _, _, _, HN.out _, Left.disk (by omega)⟩
set_option maxRecDepth 100000 in
set_option maxHeartbeats 4000000 in
theorem does_fail (h : Pr W d r bk pr D qb qi w) (hk : 0 ≤ kind ∧ kind ≤ 255) (hm : kind % 9 = 7) (hat : at_ = 77) (hc : D.cache.length ≤ 1000000) :
    Calls Try.prog 21 #[.pointer (some ⟨pr, 0, none⟩), .agg #[.int .u8 kind, .int .i64 at_, .slice ba bl.length bcap, .slice ka kl.length kcap]] w (Gives (DoesPost W d r bk pr D qb qi)) := by
  subst hat
  have HS : Hid (St W ⟨d, r, bk, pr, w.heap.size⟩ ⟨kind, 77, .slice ba bl.length bcap, bl, .slice ka kl.length kcap, kl⟩ D D qb qi [] (w.alloc (.cells #[.int .u8 kind, .int .i64 77, .slice ba bl.length bcap, .slice ka kl.length kcap] 59))) := h.box _
  obtain ⟨⟨c0, c1, c2⟩, a0, a1, a2, a3⟩ := HS.out.cells'
  have hm0 : Int.tmod kind 9 = 7 := by rw [Int.tmod_eq_emod_of_nonneg hk.1]; exact hm
  clear h hm
  go_enter Try.func21, Try.ntmps21
  go_wp2_with (first
    | (go_at_call 63; go_must (refine (St.fail HS.out hc).mono ?_); rintro e wc ⟨v, rfl, rfl, hv⟩; have H2 := Lib.hid hv; obtain ⟨⟨f0, f1, f2⟩, g0, g1, g2, g3⟩ := St.cells' hv; clear hv)
    | (go_at_call 64; go_must (refine (St.rfail H2.out).mono ?_); rintro e wd ⟨v, rfl, rfl, hv⟩; have H3 := Lib.hid hv; obtain ⟨⟨i0, i1, i2⟩, j0, j1, j2, j3⟩ := St.cells' hv; have hb := St.failed' hv; clear hv))
  have H65 : ∀ nq, Calls Try.prog 65 #[.pointer (some ⟨d, 0, none⟩)] (wd.drewN nq) fun e w' => e = .returned (.int .i64 D.fail.las.length) ∧ w' = wd.drewN nq := fun nq =>
    (St.sectors (H3.out.quiet (Keep.drewN NoF _ nq))).mono fun e w' hg => ⟨hg.1, hg.2.symm⟩
  have H66 : ∀ nq, Calls Try.prog 66 #[.pointer (some ⟨r, 0, none⟩)] (wd.drewN nq) fun e w' => e = .returned (.int .i64 D.fail.las.length) ∧ w' = wd.drewN nq := fun nq =>
    (St.rsectors (H3.out.quiet (Keep.drewN NoF _ nq))).mono fun e w' hg => ⟨hg.1, hg.2.symm⟩
  have H67 : ∀ nq, Calls Try.prog 67 #[.pointer (some ⟨d, 0, none⟩)] (wd.drewN nq) fun e w' => e = .returned (.bool D.fail.failed) ∧ w' = wd.drewN nq := fun nq =>
    (St.dfailed (H3.out.quiet (Keep.drewN NoF _ nq))).mono fun e w' hg => ⟨hg.1, hg.2.symm⟩
  have HN : Hid (∀ nq, Pr W d r bk pr D.fail qb qi (wd.drewN nq)) := fun nq => (H3.out.quiet (Keep.drewN NoF _ nq)).toPr
  clear H2 H3 HS
  generalize D.fail.las.length = nl at *
  generalize D.fail.failed = fl at *
  go_quiet ((first | (go_at_call 65; exact Calls.quiet_of_same (H65 _)) | (go_at_call 66; exact Calls.quiet_of_same (H66 _)) | (go_at_call 67; exact Calls.quiet_of_same (H67 _))))
  go_wp2
  go_ret
  refine ⟨_, rfl, by simp, _, _, _, HN.out _, Left.disk (fail_cache_le _)⟩
end
end Go.Proofs.Ytghnbbpoaeheaaa

/- spindlelaw04's known, walked: a disk of its own answers as the code asks. -/
namespace Go.Proofs.Ytghnbbpoaeheaaa
open Go.RowKit

def sc (c : Int) : List Int := List.replicate 128 c
def E0 : Dk := Dk.new 2
def E1 : Dk := E0.write 0 (sc 97)
def E2 : Dk := E1.write 0 (sc 98)
def E3 : Dk := E2.write 1 (sc 99)
def E4 : Dk := E3.crash [true, false, true]
theorem e_w0 : E0.wcode 0 (sc 97).length = 0 := by decide +kernel
theorem e_w1 : E1.wcode 0 (sc 98).length = 0 := by decide +kernel
theorem e_w2 : E2.wcode 1 (sc 99).length = 0 := by decide +kernel
theorem e_c3 : E3.code 0 = 0 ∧ E3.read 0 = sc 98 ∧ E3.pending = [0, 0, 1] := by decide +kernel
theorem e_c4 : E4.code 0 = 0 ∧ E4.read 0 = sc 97 ∧ E4.code 1 = 0 ∧ E4.read 1 = sc 99 := by decide +kernel
theorem e_l : E0.cache.length ≤ 1000000 ∧ E1.cache.length ≤ 1000000 ∧ E2.cache.length ≤ 1000000 ∧ E3.cache.length ≤ 1000000 := by decide +kernel
section
variable {W w : World} {d : Nat} {L : List Part}
theorem kn_new (w : World) : Calls Try.prog 35 #[.int .i64 2] w (Gives fun v w' => ∃ d, v = .tuple #[.pointer (some ⟨d, 0, none⟩), .int .u16 0] ∧ Kn w d E0 [] w') := by
  refine Gives.imp (new_ok 2 w (by omega) (by omega)) fun v w' ⟨b, F, h1, h2, h3, h4⟩ => ⟨b, h1, F, (All.none w).new h3 h2 h4⟩
theorem kn_w0 {v : Value} (h : Kn W d E0 (byP v (sc 97) :: L) w) : Calls Try.prog 37 #[.pointer (some ⟨d, 0, none⟩), .int .i64 0, v] w (Gives fun r w' => r = .int .u16 0 ∧ Kn W d E1 (byP v (sc 97) :: L) w') := by
  have := h.write 0 (h.bytes List.mem_cons_self) e_l.1
  rw [e_w0] at this
  exact this
theorem kn_w1 {v : Value} (h : Kn W d E1 (byP v (sc 98) :: L) w) : Calls Try.prog 37 #[.pointer (some ⟨d, 0, none⟩), .int .i64 0, v] w (Gives fun r w' => r = .int .u16 0 ∧ Kn W d E2 (byP v (sc 98) :: L) w') := by
  have := h.write 0 (h.bytes List.mem_cons_self) e_l.2.1
  rw [e_w1] at this
  exact this
theorem kn_w2 {v : Value} (h : Kn W d E2 (byP v (sc 99) :: L) w) : Calls Try.prog 37 #[.pointer (some ⟨d, 0, none⟩), .int .i64 1, v] w (Gives fun r w' => r = .int .u16 0 ∧ Kn W d E3 (byP v (sc 99) :: L) w') := by
  have := h.write 1 (h.bytes List.mem_cons_self) e_l.2.2.1
  rw [e_w2] at this
  exact this
theorem kn_r3 (h : Kn W d E3 L w) : Calls Try.prog 36 #[.pointer (some ⟨d, 0, none⟩), .int .i64 0] w (Gives fun v w' => ∃ s, v = .tuple #[s, .int .u16 0] ∧ Kn W d E3 (byP s (sc 98) :: L) w') := by
  have := h.read 0
  rw [e_c3.1, e_c3.2.1] at this
  exact this
theorem kn_p3 (h : Kn W d E3 L w) : Calls Try.prog 52 #[.pointer (some ⟨d, 0, none⟩)] w (Gives fun v w' => Kn W d E3 (inP v [0, 0, 1] :: L) w') := by
  have := h.pending e_l.2.2.2
  rw [e_c3.2.2] at this
  exact this
theorem kn_cr (h : Kn W d E3 L w) : Calls Try.prog 39 #[.pointer (some ⟨d, 0, none⟩), .slice (some ⟨w.heap.size, 0, none⟩) 3 3] (w.alloc (.cells #[.bool true, .bool false, .bool true] 4)) (Gives fun v w' => v = .tuple #[] ∧ Kn W d E4 L w') := h.crash3 e_l.2.2.2
theorem kn_r40 (h : Kn W d E4 L w) : Calls Try.prog 36 #[.pointer (some ⟨d, 0, none⟩), .int .i64 0] w (Gives fun v w' => ∃ s, v = .tuple #[s, .int .u16 0] ∧ Kn W d E4 (byP s (sc 97) :: L) w') := by
  have := h.read 0
  rw [e_c4.1, e_c4.2.1] at this
  exact this
theorem kn_r41 (h : Kn W d E4 L w) : Calls Try.prog 36 #[.pointer (some ⟨d, 0, none⟩), .int .i64 1] w (Gives fun v w' => ∃ s, v = .tuple #[s, .int .u16 0] ∧ Kn W d E4 (byP s (sc 99) :: L) w') := by
  have := h.read 1
  rw [e_c4.2.2.1, e_c4.2.2.2] at this
  exact this
theorem Kn.eq (h : Kn W d E4 L w) {v1 v2 : Value} {l : List Int} (h1 : byP v1 l ∈ L) (h2 : byP v2 l ∈ L) : Calls Try.prog 19 #[v1, v2] w (Gives fun v w' => v = .bool true ∧ Kn W d E4 L w') := by
  have := h.same h1 h2
  rw [decide_eq_true rfl] at this
  exact this
theorem Kn.eqi (h : Kn W d E4 L w) {v1 : Value} (h1 : inP v1 [0, 0, 1] ∈ L) : Calls Try.prog 50 #[v1, .slice (some ⟨w.heap.size, 0, none⟩) 3 3] (w.alloc (.cells #[.int .i64 0, .int .i64 0, .int .i64 1] 3)) (Gives fun v w' => v = .bool true ∧ Kn W d E4 L w') := by
  have := h.ints3 h1 0 0 1
  rw [decide_eq_true rfl] at this
  exact this
end
set_option maxRecDepth 100000 in
set_option maxHeartbeats 2000000 in
theorem known4_any (w : World) : Calls Try.prog 16 #[] w (Gives fun v w' => v = .bool true ∧ Keep (Old w) w w') := by
  have HN := Lib.hid (kn_new w)
  go_enter Try.func16, Try.ntmps16
  go_wp2_with (first
    | (go_at_call 35; go_must (refine HN.out.mono ?_); rintro e w1 ⟨v, rfl, d, rfl, hv⟩; have H0 := Lib.hid hv; clear hv)
    | (go_at_call 51; refine (Kn.sector H9.out 99).mono ?_; rintro e w14 ⟨s8, rfl, hv⟩; have H10 := Lib.hid hv; clear hv)
    | (go_at_call 51; refine (Kn.sector H8.out 97).mono ?_; rintro e w13 ⟨s7, rfl, hv⟩; have H9 := Lib.hid hv; clear hv)
    | (go_at_call 51; refine (Kn.sector HI.out 98).mono ?_; rintro e w12 ⟨s6, rfl, hv⟩; have H8 := Lib.hid hv; clear hv)
    | (go_at_call 51; refine (Kn.sector H2.out 99).mono ?_; rintro e w6 ⟨s2, rfl, hv⟩; have H2' := Lib.hid hv; clear hv)
    | (go_at_call 51; refine (Kn.sector H1.out 98).mono ?_; rintro e w4 ⟨s1, rfl, hv⟩; have H1' := Lib.hid hv; clear hv)
    | (go_at_call 51; refine (Kn.sector H0.out 97).mono ?_; rintro e w2 ⟨s0, rfl, hv⟩; have H0' := Lib.hid hv; clear hv)
    | (go_at_call 37; refine (kn_w2 H2'.out).mono ?_; rintro e w7 ⟨v, rfl, rfl, hv⟩; have H3 := Lib.hid hv; clear hv)
    | (go_at_call 37; refine (kn_w1 H1'.out).mono ?_; rintro e w5 ⟨v, rfl, rfl, hv⟩; have H2 := Lib.hid hv; clear hv)
    | (go_at_call 37; refine (kn_w0 H0'.out).mono ?_; rintro e w3 ⟨v, rfl, rfl, hv⟩; have H1 := Lib.hid hv; clear hv)
    | (go_at_call 36; refine (kn_r41 H6.out).mono ?_; rintro e w11 ⟨v, rfl, s5, rfl, hv⟩; have H7 := Lib.hid hv; clear hv)
    | (go_at_call 36; refine (kn_r40 H5.out).mono ?_; rintro e w10 ⟨v, rfl, s4, rfl, hv⟩; have H6 := Lib.hid hv; clear hv)
    | (go_at_call 36; refine (kn_r3 H3.out).mono ?_; rintro e w8 ⟨v, rfl, s3, rfl, hv⟩; have H4 := Lib.hid hv; clear hv)
    | (go_at_call 52; go_must (refine (kn_p3 H4.out).mono ?_); rintro e w9 ⟨p, rfl, hv⟩; have H4' := Lib.hid hv; clear hv)
    | (go_at_call 39; go_must (refine (kn_cr H4'.out).mono ?_); rintro e w9' ⟨v, rfl, rfl, hv⟩; have H5 := Lib.hid hv; clear hv)
    | (go_at_call 50; go_must (refine (Kn.eqi H7.out (.tail _ (.tail _ (.head _))) ).mono ?_); rintro e w11' ⟨v, rfl, rfl, hv⟩; have HI := Lib.hid hv; clear hv)
    | (go_at_call 19; refine (Kn.eq H10.out (l := sc 99) (.tail _ (.tail _ (.tail _ (.head _)))) (.head _)).mono ?_; rintro e w17 ⟨v, rfl, rfl, hv⟩; have H11 := Lib.hid hv; clear hv)
    | (go_at_call 19; refine (Kn.eq H9.out (l := sc 97) (.tail _ (.tail _ (.tail _ (.head _)))) (.head _)).mono ?_; rintro e w16 ⟨v, rfl, rfl, hv⟩; have H9 := Lib.hid hv; clear hv)
    | (go_at_call 19; refine (Kn.eq H8.out (l := sc 98) (.tail _ (.tail _ (.tail _ (.tail _ (.head _))))) (.head _)).mono ?_; rintro e w15 ⟨v, rfl, rfl, hv⟩; have H8 := Lib.hid hv; clear hv))
  go_ret
  exact ⟨_, rfl, rfl, H11.out.choose_spec.kept⟩
end Go.Proofs.Ytghnbbpoaeheaaa

/- spindlelaw04's much, walked. -/
namespace Go.Proofs.Ytghnbbpoaeheaaa
open Go.RowKit

def Much4Post (W : World) (l : List ActD) (v : Value) (w' : World) : Prop := ∃ c, v = .bool c ∧ Keep NoF W w' ∧ (c = false → ∀ d ∈ l, d.bl.length ≤ 4000000 ∧ d.kl.length ≤ 4000000)
/-- How far much has come. -/
def Much4At (W : World) (l : List ActD) (i : Nat) (n : Int) (wr : World) : Prop := 0 ≤ n ∧ n ≤ 1000000000000000 ∧ (∀ j d, j < i → l[j]? = some d → (d.bl.length : Int) ≤ n ∧ (d.kl.length : Int) ≤ n) ∧ Keep NoF W wr
set_option maxRecDepth 100000 in
set_option maxHeartbeats 4000000 in
theorem much4_any {W : World} {ov : Value} {acts : List ActD} (s : Int) (hs : 0 ≤ s ∧ s ≤ 8192) (ho : ActsAt W ov acts) (hl : acts.length ≤ 40) :
    Calls Try.prog 17 #[.int .i64 s, ov] W (Gives (Much4Post W acts)) := by
  obtain ⟨hs1, hs2⟩ := hs
  have HO := Lib.hid ho
  obtain ⟨oa, oc, rfl, -, -, -⟩ := ho
  go_enter Try.func17, Try.ntmps17
  go_wp2
  go_loopw [5, 6] (fun m t wr => ∃ (i : Nat) (n : Int), i ≤ acts.length ∧ t = .int .i64 i ∧ m = .int .i64 n ∧ Much4At W acts i n wr) (fun _ t _ => acts.length - (intOf t).toNat)
  case atStart => exact ⟨0, 0, Nat.zero_le _, rfl, rfl, by omega, by omega, fun j d hj => by omega, Keep.refl _ _⟩
  case round =>
    obtain ⟨i, n, hi, rfl, rfl, h0, h1, h2, hkeep⟩ := hrel
    by_cases hgo : i < acts.length ∧ n ≤ 4000000
    · obtain ⟨hlt, hn⟩ := hgo
      obtain ⟨d, hd⟩ : ∃ d, acts[i]? = some d := ⟨_, List.getElem?_eq_getElem hlt⟩
      obtain ⟨bb, o, cap, hv, hda, hdc⟩ := HO.out.get hd
      simp only [Value.slice.injEq, true_and] at hv
      obtain ⟨rfl, rfl⟩ := hv
      have hbf := hda.bl
      have hkf := hda.kl
      unfold far at hbf hkf
      obtain ⟨hk1, hk2⟩ := hda.kind
      obtain ⟨ba, bcap, hbv, -, -, -⟩ := hda.b
      obtain ⟨ka, kcap, hkv, -, -⟩ := hda.k
      have hcK : Hid (∀ w', Keep NoF W w' → (w'.cell? ⟨bb, o + i * 4, none⟩ = some (.int .u8 d.kind)) ∧ w'.cell? ⟨bb, o + i * 4 + 2, none⟩ = some (.slice ba d.bl.length bcap) ∧ w'.cell? ⟨bb, o + i * 4 + 3, none⟩ = some (.slice ka d.kl.length kcap)) := fun w' hk => by
        have h := act_cells (hdc w' (hk.mono fun _ _ h => h.elim))
        rw [hbv, hkv] at h
        exact ⟨h.1.1, h.2.1, h.2.2⟩
      have HNX : Hid (∀ wr' n', Keep NoF W wr' → n + (d.bl.length + (d.kl.length + 1)) ≤ n' → n' ≤ 1000000000000000 → Much4At W acts (i + 1) n' wr') := fun wr' n' hk a1 a2 => ⟨by omega, a2, fun j d' hj hd' => by
        by_cases e : j = i
        · subst e
          obtain rfl : d = d' := by rw [hd] at hd'; exact Option.some.inj hd'
          omega
        · have := h2 j d' (by omega) hd'
          omega, hk⟩
      have HKK := Lib.hid hkeep
      obtain ⟨q0, q2, q3⟩ := hcK.out _ hkeep
      generalize d.bl.length = bn at *
      generalize d.kl.length = kn at *
      generalize hdk : d.kind = kk at *
      clear hd hda hdc hbv hkv h2 hkeep hdk
      have HKQ : Hid (∀ nq, Keep NoF W (wr.drewN nq)) := fun nq => HKK.out.trans' (Keep.drewN _ _ _)
      have HCQ : Hid (∀ nq, ((wr.drewN nq).cell? ⟨bb, o + i * 4, none⟩ = some (.int .u8 kk)) ∧ (wr.drewN nq).cell? ⟨bb, o + i * 4 + 2, none⟩ = some (.slice ba bn bcap) ∧ (wr.drewN nq).cell? ⟨bb, o + i * 4 + 3, none⟩ = some (.slice ka kn kcap)) := fun nq => hcK.out _ (HKQ.out nq)
      clear hcK
      go_wp2
      go_quiet (fail)
      have q0' := (HCQ.out nq).1
      have HK1 := HKQ.out nq
      have hw1 : IntKind.i64.wrap (s * 128) = s * 128 := IntWalk.i64_in _ (by omega)
      have hw2 : IntKind.i64.wrap (8 * (i : Int)) = 8 * i := IntWalk.i64_in _ (by omega)
      go_wp2
      all_goals exact ⟨⟨i + 1, _, by omega, by go_num, rfl, HNX.out _ _ HK1 (by omega) (by omega)⟩, by simp [intOf]; omega⟩
    · have HK1 := Lib.hid hkeep
      have HE : Hid (n ≤ 4000000 → ¬ i < acts.length → ∀ d ∈ acts, d.bl.length ≤ 4000000 ∧ d.kl.length ≤ 4000000) := fun hn hi d hd => by
        obtain ⟨j, hj, rfl⟩ := List.mem_iff_getElem.1 hd
        have := h2 j _ (by omega) (List.getElem?_eq_getElem hj)
        omega
      clear h2 hkeep
      by_cases hlt : i < acts.length
      · have hn : ¬ n ≤ 4000000 := fun h => hgo ⟨hlt, h⟩
        clear hgo
        go_wp2
        go_ret
        exact ⟨_, rfl, true, rfl, HK1.out, fun h => by cases h⟩
      · clear hgo
        go_wp2
        go_ret
        exact ⟨_, rfl, decide (4000000 < n), rfl, HK1.out, fun h => HE.out (by simpa using h) hlt⟩
end Go.Proofs.Ytghnbbpoaeheaaa
