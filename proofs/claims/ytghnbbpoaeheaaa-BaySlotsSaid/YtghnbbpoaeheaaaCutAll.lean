/- The bay's Cut, walked, whatever is coming. -/
import Derived.Test.YtghnbbpoaeheaaaPush
namespace Go.Proofs.Ytghnbbpoaeheaaa
open Go.RowKit

/-- The disk that is coming stands in the slot. -/
def comeq (q : Nat) : Nat → Option Nat := fun j => if j = q then some (q + 2) else if j = q + 2 then none else some j
def By.comeAt (B : By) (i : Nat) : By := match B.dev (i * 3 + 2) with | none => B | some _ => { B with dev := moved (comeq (i * 3)) B.dev none }
def By.cutgTo (B : By) (kl : List (Value × List Bool)) : Nat → By
  | 0 => B
  | i + 1 => ((B.cutgTo kl i).crashAt kl i).comeAt i
def By.cutg (B : By) (kl : List (Value × List Bool)) : By := { B.cutgTo kl B.n with dark := false, trip := -1 }
theorem comeAt_n (B : By) (i : Nat) : (B.comeAt i).n = B.n := by unfold By.comeAt; split <;> rfl
theorem cutgTo_n (B : By) (kl : List (Value × List Bool)) : ∀ i, (B.cutgTo kl i).n = B.n
  | 0 => rfl
  | i + 1 => by rw [By.cutgTo, comeAt_n, (crashAt_head _ kl i).1, cutgTo_n B kl i]
theorem Small.comeAt {B : By} {m : Int} (h : B.Small m) (i : Nat) : (B.comeAt i).Small m := by
  unfold By.comeAt
  split
  · exact h
  · refine ⟨h.cr, h.cw, h.cf, fun j e he => ?_⟩
    simp only [moved] at he
    split at he
    · cases he
    · exact h.cl _ e he
theorem Small.cutgTo {B : By} {m : Int} (h : B.Small m) (hm : 0 ≤ m) (kl : List (Value × List Bool)) : ∀ i, (B.cutgTo kl i).Small m
  | 0 => h
  | i + 1 => Small.comeAt (Small.crashAt (Small.cutgTo h hm kl i) hm kl i) i
theorem Small.cutg {B : By} {m : Int} (h : B.Small m) (hm : 0 ≤ m) (kl : List (Value × List Bool)) : (B.cutg kl).Small m := by
  have := Small.cutgTo h hm kl B.n
  exact ⟨this.cr, this.cw, this.cf, this.cl⟩

/-- What the second half of a round does to the bay in memory. -/
theorem come_post {w : World} {b : Nat} {B : By} {F : Nat → Prop} {bs : Nat} {ptr : Nat → Value} {Fs : Nat → Nat → Prop} (h : BayLies w b B F bs ptr Fs) {i : Nat} (hi : i < B.n) {e : Dev} (he : B.dev (i * 3 + 2) = some e) :
    BayPost w b (B.comeAt i) F ((w.setCell ⟨bs, i * 3, none⟩ (ptr (i * 3 + 2))).setCell ⟨bs, i * 3 + 2, none⟩ (.pointer none)) := by
  have hkk : Keep (· = bs) w ((w.setCell ⟨bs, i * 3, none⟩ (ptr (i * 3 + 2))).setCell ⟨bs, i * 3 + 2, none⟩ (.pointer none)) := (Keep.setCell (F := (· = bs)) w ⟨bs, i * 3, none⟩ (ptr (i * 3 + 2)) rfl).trans' (Keep.setCell (F := (· = bs)) _ ⟨bs, i * 3 + 2, none⟩ (.pointer none) rfl)
  have hs2 := heap_setCell_same _ bs (i * 3 + 2) _ _ (.pointer none) (heap_setCell_same w bs (i * 3) _ _ (ptr (i * 3 + 2)) h.hs)
  rw [map_put, map_put] at hs2
  have ep : put (put ptr (i * 3) (ptr (i * 3 + 2))) (i * 3 + 2) (.pointer none) = moved (comeq (i * 3)) ptr (.pointer none) := by
    funext j
    unfold put moved comeq
    by_cases h1 : j = i * 3 + 2
    · rw [if_pos h1, if_neg (by omega), if_pos h1]
    · rw [if_neg h1]
      by_cases h2 : j = i * 3
      · rw [if_pos h2, if_pos h2]
      · rw [if_neg h2, if_neg h2, if_neg h1]
  rw [ep] at hs2
  have hsh := h.shuffle hkk (comeq (i * 3)) (fun a c s h1 h2 => by
    unfold comeq at h1 h2
    split at h1 <;> split at h2 <;> simp at h1 h2 <;> omega) (fun j hj => by
    unfold comeq
    rw [if_neg (by omega), if_neg (by omega)]) hs2
  have hbsF : F bs := (h.hF bs).2 (.inr (.inl rfl))
  unfold By.comeAt
  rw [he]
  refine ⟨_, ⟨bs, _, _, hsh⟩, hkk.mono (fun x _ e => (show x = bs from e) ▸ hbsF), ?_⟩
  rintro x (rfl | rfl | ⟨j, hj⟩)
  · exact .inl ((h.hF _).2 (.inl rfl))
  · exact .inl hbsF
  · unfold moved at hj
    cases h1 : comeq (i * 3) j with
    | none => rw [h1] at hj; exact hj.elim
    | some s => rw [h1] at hj; exact .inl ((h.hF x).2 (.inr (.inr ⟨s, hj⟩)))
theorem BayPost.trans {w0 w w' : World} {b : Nat} {B' : By} {F F1 : Nat → Prop} (hk : Keep F w0 w) (hF : ∀ x, F1 x → F x ∨ w0.heap.size ≤ x) (h : BayPost w b B' F1 w') : BayPost w0 b B' F w' := by
  obtain ⟨F2, g1, g2, g3⟩ := h
  refine ⟨F2, g1, hk.trans g2 (fun x hx hf => (hF x hf).resolve_right (by omega)), fun x hx => ?_⟩
  rcases g3 x hx with hx | hx
  · exact hF x hx
  · exact .inr (Nat.le_trans hk.size hx)

/-- What a round's first half leaves for the second: the coming disk's cell, and the bay behind the whole round. -/
def Half (w : World) (b : Nat) (B2 : By) (F : Nat → Prop) (bs q : Nat) (w1 : World) : Prop :=
  (w1.cell? ⟨bs, q + 2, none⟩ = some (.pointer none) ∧ BayPost w b B2 F w1) ∨
  (∃ bv v0, w1.cell? ⟨bs, q + 2, none⟩ = some (.pointer (some ⟨bv, 0, none⟩)) ∧ w1.cell? ⟨bs, q, none⟩ = some v0 ∧ w1.frozen? ⟨bs, q, none⟩ = false ∧ w1.frozen? ⟨bs, q + 2, none⟩ = false ∧ bs < w1.heap.size ∧
    BayPost w b B2 F ((w1.setCell ⟨bs, q, none⟩ (.pointer (some ⟨bv, 0, none⟩))).setCell ⟨bs, q + 2, none⟩ (.pointer none)))
theorem half_of {w0 w1 : World} {b : Nat} {B1 : By} {F0 F1 : Nat → Prop} {bs : Nat} {ptr : Nat → Value} {Fs : Nat → Nat → Prop} (h : BayLies w1 b B1 F1 bs ptr Fs) {i : Nat} (hi : i < B1.n) (hk : Keep F0 w0 w1) (hF : ∀ x, F1 x → F0 x ∨ w0.heap.size ≤ x) : Half w0 b (B1.comeAt i) F0 bs (i * 3) w1 := by
  have c2 := h.slot (j := i * 3 + 2) (by omega)
  have c0 := h.slot (j := i * 3) (by omega)
  have hd := h.dev (i * 3 + 2)
  cases hdv : B1.dev (i * 3 + 2) with
  | none =>
    rw [hdv] at hd
    rw [hd.none_form] at c2
    refine .inl ⟨c2, F1, ?_, hk, hF⟩
    unfold By.comeAt
    rw [hdv]
    exact ⟨bs, ptr, Fs, h⟩
  | some e =>
    rw [hdv] at hd
    obtain ⟨bv, bd, hp, _⟩ := hd.some_form
    have := come_post h hi hdv
    rw [hp] at this
    rw [hp] at c2
    exact .inr ⟨bv, _, c2, c0, free_at h.hs _, free_at h.hs _, lt_of_heap h.hs, this.trans hk hF⟩

set_option maxRecDepth 100000 in
set_option maxHeartbeats 2000000 in
theorem cutg_core {w : World} {b : Nat} {B : By} {F : Nat → Prop} (h : BayAt w b B F) {ka : Option Addr} {kc : Nat} {kl : List (Value × List Bool)} (hkf : kl.length ≤ far)
    (hk : ∀ (wr : World) (F1 : Nat → Prop), Keep F w wr → (∀ x, F1 x → F x ∨ w.heap.size ≤ x) → ∀ i, i < kl.length → ∃ bb o a c, ka = some ⟨bb, o, none⟩ ∧ wr.cell? ⟨bb, o + i, none⟩ = some (.slice a (keepsFor kl i).length c) ∧
      BoolsAt wr (.slice a (keepsFor kl i).length c) (keepsFor kl i) ∧ ∀ a' n c', Value.slice a (keepsFor kl i).length c = .slice (some a') n c' → keepsFor kl i ≠ [] → ¬ F1 a'.block) (hs : B.Small 1000000) :
    Calls Try.prog 33 #[.pointer (some ⟨b, 0, none⟩), .slice ka kl.length kc] w (Gives fun v w' => v = .tuple #[] ∧ BayPost w b (B.cutg kl) F w') := by
  unfold far at hkf
  have hn := h.ok.le
  have HK := Lib.hid hk
  have HS : Hid (∀ i, (B.cutgTo kl i).Small 1000000) := fun i => Small.cutgTo hs (by omega) kl i
  have H0 : Hid (BayPost w b (B.cutgTo kl 0) F w) := BayPost.same h
  obtain ⟨bs, c0, -⟩ := h.head
  have HH : Hid (∀ i, (B.cutgTo kl i).n = B.n) := fun i => cutgTo_n B kl i
  have HC : Hid (∀ wr, BayPost w b (B.cutgTo kl B.n) F wr → ∃ d t, (wr.cell? ⟨b, 1, none⟩ = some (.bool d) ∧ wr.cell? ⟨b, 2, none⟩ = some (.int .i64 t)) ∧ wr.frozen? ⟨b, 1, none⟩ = false ∧ wr.frozen? ⟨b, 2, none⟩ = false ∧ b < wr.heap.size ∧ BayPost w b (B.cutg kl) F ((wr.setCell ⟨b, 1, none⟩ (.bool false)).setCell ⟨b, 2, none⟩ (.int .i64 (-1)))) := fun wr hp => by
    obtain ⟨F1, ⟨bs1, ptr1, Fs1, hl⟩, hk1, hF1⟩ := hp
    have hd := hl.head
    have hk2 : Keep (· = b) wr ((wr.setCell ⟨b, 1, none⟩ (.bool false)).setCell ⟨b, 2, none⟩ (.int .i64 (-1))) := (Keep.setCell (F := (· = b)) wr ⟨b, 1, none⟩ (.bool false) rfl).trans' (Keep.setCell (F := (· = b)) _ ⟨b, 2, none⟩ (.int .i64 (-1)) rfl)
    have hb2 := heap_setCell_same _ b 2 _ _ (.int .i64 (-1)) (heap_setCell_same wr b 1 _ _ (.bool false) hl.hb)
    have hl2 : BayLies _ b (B.cutg kl) F1 bs1 ptr1 Fs1 := hl.rehead (B' := B.cutg kl) hk2 rfl rfl ⟨by show (-1 : Int) ≤ -1; decide, by show (-1 : Int) ≤ 9223372036854775807; decide⟩ (by
      show _ = some (Obj.cells #[.slice (some ⟨bs1, 0, none⟩) (B.cutgTo kl B.n).n (B.cutgTo kl B.n).n, .bool false, .int .i64 (-1), .int .i64 (B.cutgTo kl B.n).cr, .int .i64 (B.cutgTo kl B.n).cw, .int .i64 (B.cutgTo kl B.n).cf] 130 (0, 0))
      simpa using hb2)
    have hb1 : F1 b := (hl.hF b).2 (.inl rfl)
    have hbF : F b ∨ w.heap.size ≤ b := hF1 b hb1
    have hblt : b < w.heap.size := World.block_lt_of_cell? w _ c0
    exact ⟨_, _, ⟨hd.2.1, hd.2.2.1⟩, free_at hl.hb 1, free_at hl.hb 2, lt_of_heap hl.hb, F1, ⟨bs1, ptr1, Fs1, hl2⟩, hk1.trans hk2 (fun x hx e => by have : x = b := e; subst this; exact hbF.resolve_right (by omega)), hF1⟩
  clear hk hs h
  go_enter Try.func33, Try.ntmps33
  go_wp2
  go_loopw [12] (fun t wr => ∃ i : Nat, i ≤ B.n ∧ t = .int .i64 i ∧ BayPost w b (B.cutgTo kl i) F wr) (fun t _ => B.n - (intOf t).toNat)
  case atStart => exact ⟨0, Nat.zero_le _, rfl, H0.out⟩
  case round =>
    obtain ⟨i, hi, rfl, hp⟩ := hrel
    by_cases hlt : i < B.n
    · obtain ⟨F1, ⟨bs1, ptr1, Fs1, hl⟩, hk1, hF1⟩ := id hp
      have hn1 := HH.out i
      obtain ⟨q0, -⟩ := hl.head
      rw [hn1] at q0
      have q1 := hl.slot (j := i * 3) (by rw [hn1]; omega)
      have hd := hl.dev (i * 3)
      cases hdv : (B.cutgTo kl i).dev (i * 3) with
      | none =>
        rw [hdv] at hd
        rw [hd.none_form] at q1
        have HP : Half w b (B.cutgTo kl (i + 1)) F bs1 (i * 3) wr := by
          have e : (B.cutgTo kl i).crashAt kl i = B.cutgTo kl i := by unfold By.crashAt; rw [hdv]
          rw [By.cutgTo, e]
          exact half_of hl (by rw [hn1]; exact hlt) hk1 hF1
        clear hl hk1 hF1 hd hdv hp hn1
        rcases HP with ⟨r1, r2⟩ | ⟨bv, v0, r1, r2, r3, r4, r5, r6⟩
        · have HR := Lib.hid r2
          clear r2
          go_wp2
          exact ⟨⟨i + 1, by omega, by go_num, HR.out⟩, by simp [intOf]; omega⟩
        · have HR := Lib.hid r6
          clear r6
          go_wp2
          exact ⟨⟨i + 1, by omega, by go_num, HR.out⟩, by simp [intOf]; omega⟩
      | some d =>
        rw [hdv] at hd
        obtain ⟨bv, bd, Fd, hpv, hh, hdk, hnv, hFd⟩ := id hd
        rw [hpv] at q1
        have q2 := cell_at hh 0 rfl
        have hcl : d.disk.cache.length ≤ 1000000 := by have := (HS.out i).cl _ d hdv; omega
        have HP : Hid (∀ w', DiskPost wr bd (d.disk.crash (keepsFor kl i)) Fd w' → Half w b (B.cutgTo kl (i + 1)) F bs1 (i * 3) w') := fun w' hq => by
          have hdp := DevPost.disk hh hnv hFd hq NoF
          rw [← hpv] at hdp
          obtain ⟨Fx, g1, g2, g3⟩ := hdp
          have hkK : Keep (Fs1 (i * 3)) wr w' := g2.mono fun x _ hx => hx.resolve_right (fun h => h)
          have hl2 := hl.redev hkK g1 g3 (by rw [hn1]; omega) (fun e he => (Option.some.inj he) ▸ hl.ok.left _ d hdv)
          have hFF := hl.redev_F (w' := w') g3
          have e : (B.cutgTo kl i).crashAt kl i = (B.cutgTo kl i).setDev (i * 3) (some { d with disk := d.disk.crash (keepsFor kl i) }) := by unfold By.crashAt; rw [hdv]
          rw [By.cutgTo, e]
          refine half_of hl2 (by show i < (B.cutgTo kl i).n; rw [hn1]; exact hlt) (hk1.trans hkK (fun x hx hf => (hF1 x ((hl.hF x).2 (.inr (.inr ⟨_, hf⟩)))).resolve_right (by omega))) (fun x hx => ?_)
          rcases hFF x hx with hx | hx
          · exact hF1 x hx
          · exact .inr (Nat.le_trans hk1.size hx)
        by_cases hik : i < kl.length
        · obtain ⟨kb, ko, a, c, rfl, hcell, hbools, hblk⟩ := HK.out wr F1 hk1 hF1 i hik
          have HCR := Lib.hid (crash_any hdk (.slice a (keepsFor kl i).length c) (keepsFor kl i) hbools (fun a' n c' he hne hf => hblk a' n c' he hne ((hl.hF _).2 (.inr (.inr ⟨i * 3, (hFd _).2 (.inr hf)⟩)))) hcl)
          clear hl hk1 hF1 hd hdv hp hn1 hh hdk hnv hFd hbools hblk hpv hcl
          go_wp2_with (go_at_call 39; go_must (refine HCR.out.mono ?_); rintro e w' ⟨v, rfl, rfl, hv⟩; rcases HP.out _ hv with ⟨r1, r2⟩ | ⟨bv2, v0, r1, r2, r3, r4, r5, r6⟩)
          all_goals first | exact ⟨⟨i + 1, by omega, by go_num, by assumption⟩, by simp [intOf]; omega⟩ | (go_wp2; exact ⟨⟨i + 1, by omega, by go_num, by assumption⟩, by simp [intOf]; omega⟩)
        · have e : keepsFor kl i = [] := by unfold keepsFor; rw [List.getElem?_eq_none (by omega)]
          have HCR := Lib.hid (crash_any hdk (.slice none 0 0) [] (BoolsAt.nil _) (fun a' n c' he => by simp at he) hcl)
          rw [e] at HP
          clear hl hk1 hF1 hd hdv hp hn1 hh hdk hnv hFd hpv hcl e
          go_wp2_with (go_at_call 39; go_must (refine HCR.out.mono ?_); rintro e w' ⟨v, rfl, rfl, hv⟩; rcases HP.out _ hv with ⟨r1, r2⟩ | ⟨bv2, v0, r1, r2, r3, r4, r5, r6⟩)
          all_goals first | exact ⟨⟨i + 1, by omega, by go_num, by assumption⟩, by simp [intOf]; omega⟩ | (go_wp2; exact ⟨⟨i + 1, by omega, by go_num, by assumption⟩, by simp [intOf]; omega⟩)
    · obtain rfl : i = B.n := by omega
      obtain ⟨dd, tt, ⟨r1, r2⟩, r3, r4, r5, r6⟩ := HC.out _ hp
      have HR := Lib.hid r6
      clear hp r6
      go_wp2
      go_end0
      exact ⟨_, rfl, rfl, HR.out⟩

theorem cutg_any {W w : World} {b : Nat} {B : By} {F : Nat → Prop} (h : BayAt w b B F) (hFW : ∀ x, F x → W.heap.size ≤ x) (hWw : Keep (Old W) W w) {kv : Value} {kl : List (Value × List Bool)} (hk : KeepsAt W kv kl) (hs : B.Small 1000000) :
    Calls Try.prog 33 #[.pointer (some ⟨b, 0, none⟩), kv] w (Gives fun v w' => v = .tuple #[] ∧ BayPost w b (B.cutg kl) F w') := by
  obtain ⟨ka, kc, rfl, hkf, -⟩ := id hk
  refine cutg_core h hkf (fun wr F1 hk1 hF1 i hi => ?_) hs
  have hWwr : Keep (Old W) W wr := hWw.trans' (hk1.mono fun x _ hx => hFW x hx)
  obtain ⟨kb, ko, kcap, a, c, hkv, hcell, hbools, hblk⟩ := hk.get hWwr hi
  simp only [Value.slice.injEq, true_and] at hkv
  refine ⟨kb, ko, a, c, hkv.1, hcell, hbools, fun a' n c' he hne hf => ?_⟩
  have h1 := hblk a' n c' he hne
  rcases hF1 _ hf with hx | hx
  · have := hFW _ hx; omega
  · have := hWw.size; omega
end Go.Proofs.Ytghnbbpoaeheaaa
