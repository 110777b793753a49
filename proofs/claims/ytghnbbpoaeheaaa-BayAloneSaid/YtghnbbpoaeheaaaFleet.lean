/- A bay beside disks of the call's own, and bytes that the call holds. -/
import Derived.Test.YtghnbbpoaeheaaaTrips
namespace Go.Proofs.Ytghnbbpoaeheaaa
open Go.RowKit

theorem i25 : (Try.prog.info? 25).map (fun i => (i.zero, i.size, i.bytes)) = some (some (.pointer none), 1, 8) := by kernel_rfl
section
variable {ops : Array Oper} {rest : List Oper} {o : Oper} {a : Act} {w : World} {Q : Exit → Act → World → Prop}
theorem wpList_app82 (hgd : o.guard = none) (s x : Operand) (ho : o.op = .call { callee := .builtin .append, args := #[s, x], argTypes := #[82, 82] })
    (base : Nat) (v : Value) (n : Nat) (xs : List Value) (hs : a.eval s = v) (hown : w.ownsRow base 25 1 v n xs)
    (ad : Addr) (m c : Nat) (news : List Value) (hx : a.eval x = .slice (some ad) m c) (hl : news.length = m) (hnews : ∀ j u, news[j]? = some u → w.cell? (ad.add j) = some u) (h1 : ∀ u ∈ news, u.oneCell' = true)
    (hb : n + m ≤ 1073741824) (hbase : base ≤ w.heap.size)
    (h : ∀ v' w', w'.ownsRow base 25 1 v' (n + m) (xs ++ news) → w.grownBy w' v.ownBlock → (v' = .slice none 0 0 ↔ v = .slice none 0 0 ∧ m = 0) → wpList Try.prog ops Q rest (a.put o.dst v') w') : wpList Try.prog ops Q (o :: rest) a w := by
  obtain ⟨i, hi, he⟩ := info_of i25
  simp only [Prod.mk.injEq] at he
  exact wpList_append_own w hgd s x 82 ho base 25 i (.pointer none) 1 8 Try.underlying82 hi he.1 he.2.1 he.2.2 rfl (by decide) v n xs hs hown ad m c news hx (by omega) hnews h1 (by unfold maxLen; omega) (by omega) hbase h
end

/-- A disk behind a pointer, or none. -/
def DkAt (w : World) (v : Value) (e : Option Dk) (G : Nat → Prop) : Prop :=
  match e with
  | none => v = .pointer none ∧ ∀ x, ¬ G x
  | some D => ∃ d, v = .pointer (some ⟨d, 0, none⟩) ∧ DiskAt w d D G
theorem DkAt.keep {w w' : World} {v : Value} {e : Option Dk} {G H : Nat → Prop} (h : DkAt w v e G) (hk : Keep H w w') (hG : ∀ x, G x → ¬ H x) : DkAt w' v e G := by
  cases e with
  | none => exact h
  | some D => obtain ⟨d, h1, h2⟩ := h; exact ⟨d, h1, h2.keep hk hG⟩
theorem DkAt.lt {w : World} {v : Value} {e : Option Dk} {G : Nat → Prop} (h : DkAt w v e G) : ∀ x, G x → x < w.heap.size := by
  cases e with
  | none => intro x hx; exact absurd hx (h.2 x)
  | some D => obtain ⟨d, _, h2⟩ := h; exact h2.lt
theorem DkAt.apart_of_type {w : World} {v : Value} {e : Option Dk} {G : Nat → Prop} (h : DkAt w v e G) {x : Nat} {cs : Array Value} {t : TypeId} {fr : Nat × Nat} (hx : w.heap[x]? = some (.cells cs t fr)) (ht : t ∉ bayTypes) : ¬ G x := by
  cases e with
  | none => exact h.2 x
  | some D => obtain ⟨d, _, h2⟩ := h; exact h2.apart_of_type hx ht

def Fleet (W w : World) (b : Nat) (B : By) (n : Nat) (E : Nat → Option Dk) (pv : Nat → Value) (L : List (Value × List Int)) : Prop :=
  ∃ (F : Nat → Prop) (G : Nat → Nat → Prop), BayAt w b B F ∧ (∀ x, F x → W.heap.size ≤ x) ∧ (∀ j, j < n → DkAt w (pv j) (E j) (G j)) ∧ (∀ j x, j < n → G j x → W.heap.size ≤ x ∧ ¬ F x) ∧ (∀ i j x, i < n → j < n → i ≠ j → G i x → ¬ G j x) ∧ Keep (Old W) W w ∧ ∀ q ∈ L, OwnB w 0 q.1 q.2
section
variable {W w : World} {b : Nat} {B : By} {n : Nat} {E : Nat → Option Dk} {pv : Nat → Value} {L : List (Value × List Int)}
theorem Fleet.old (h : Fleet W w b B n E pv L) : Keep (Old W) W w := by obtain ⟨_, _, _, _, _, _, _, h, _⟩ := h; exact h
theorem Fleet.own (h : Fleet W w b B n E pv L) {v : Value} {l : List Int} (hq : (v, l) ∈ L) : OwnB w 0 v l := by obtain ⟨_, _, _, _, _, _, _, _, h⟩ := h; exact h _ hq
theorem Fleet.bytes (h : Fleet W w b B n E pv L) {v : Value} {l : List Int} (hq : (v, l) ∈ L) : BytesAt w v l := (h.own hq).bytes
theorem Fleet.less {L' : List (Value × List Int)} (h : Fleet W w b B n E pv L) (hL : ∀ q ∈ L', q ∈ L) : Fleet W w b B n E pv L' := by
  obtain ⟨F, G, h1, h2, h3, h4, h5, h6, h7⟩ := h; exact ⟨F, G, h1, h2, h3, h4, h5, h6, fun q hq => h7 q (hL q hq)⟩
theorem Fleet.quiet {w' : World} (h : Fleet W w b B n E pv L) (hk : Keep NoF w w') : Fleet W w' b B n E pv L := by
  obtain ⟨F, G, h1, h2, h3, h4, h5, h6, h7⟩ := h
  exact ⟨F, G, h1.keep hk (fun _ _ h => h), h2, fun j hj => (h3 j hj).keep hk (fun _ _ h => h), h4, h5, h6.ofNoF hk, fun q hq => ownsRow_keep (h7 q hq) hk (fun _ _ h => h)⟩
theorem Fleet.mem (h : Fleet W w b B n E pv L) {v : Value} {l : List Int} (ho : OwnB w 0 v l) : Fleet W w b B n E pv ((v, l) :: L) := by
  obtain ⟨F, G, h1, h2, h3, h4, h5, h6, h7⟩ := h
  refine ⟨F, G, h1, h2, h3, h4, h5, h6, fun q hq => ?_⟩
  rcases List.mem_cons.1 hq with rfl | hq
  · exact ho
  · exact h7 q hq
theorem Fleet.start (h : Many W w 1 (fun _ => b) (fun _ => B) L) : Fleet W w b B 0 E pv L := by
  obtain ⟨F, h1, h2, h3, h4, h5⟩ := h
  exact ⟨F 0, fun _ _ => False, h1 0 (by omega), fun x hx => h3 0 x (by omega) hx, fun j hj => by omega, fun j x hj => by omega, fun i j x hi => by omega, h4, h5⟩
/-- A row that is no bay's, no disk's and none of the bytes' turns. -/
theorem Fleet.row {w' : World} {H : Nat → Prop} (h : Fleet W w b B n E pv L) (hk : Keep H w w') (hH : ∀ x, H x → W.heap.size ≤ x ∧ ∃ cs t fr, w.heap[x]? = some (Obj.cells cs t fr) ∧ t ∉ bayTypes ∧ t ≠ 5) : Fleet W w' b B n E pv L := by
  obtain ⟨F, G, h1, h2, h3, h4, h5, h6, h7⟩ := h
  refine ⟨F, G, h1.keep hk (fun x hx hh => ?_), h2, fun j hj => (h3 j hj).keep hk (fun x hx hh => ?_), h4, h5, h6.trans' (hk.mono fun x _ hx => (hH x hx).1), fun q hq => ownsRow_keep (h7 q hq) hk (fun x hx hh => ?_)⟩
  · obtain ⟨_, cs, t, fr, hc, ht, _⟩ := hH x hh; exact h1.apart_of_type hc ht hx
  · obtain ⟨_, cs, t, fr, hc, ht, _⟩ := hH x hh; exact (h3 j hj).apart_of_type hc ht hx
  · obtain ⟨_, cs, t, fr, hc, ht, h5'⟩ := hH x hh
    obtain ⟨cs', hcs⟩ := own_elem (h7 q hq) hx
    rw [hc] at hcs
    simp at hcs
    exact h5' hcs.2.1
/-- An operation on the bay. -/
theorem Fleet.bay (h : Fleet W w b B n E pv L) : ∃ F, BayAt w b B F ∧ (∀ x, F x → W.heap.size ≤ x) ∧ ∀ B' w', BayPost w b B' F w' → Fleet W w' b B' n E pv L ∧ Local w w' := by
  obtain ⟨F, G, h1, h2, h3, h4, h5, h6, h7⟩ := h
  refine ⟨F, h1, h2, fun B' w' hp => ?_⟩
  obtain ⟨F', q1, q2, q3⟩ := hp
  have hsz := h6.size
  refine ⟨⟨F', G, q1, fun x hx => ?_, fun j hj => (h3 j hj).keep q2 (fun x hx => (h4 j x hj hx).2), fun j x hj hx => ⟨(h4 j x hj hx).1, fun hf => ?_⟩, h5, h6.trans' (q2.mono fun x _ hx => h2 x hx), fun q hq => (h7 q hq).past h1 q2⟩, Local.post h1 q2⟩
  · rcases q3 x hx with hx | hx
    · exact h2 x hx
    · omega
  · rcases q3 x hf with hf | hf
    · exact (h4 j x hj hx).2 hf
    · have := (h3 j hj).lt x hx; omega
/-- An operation on the j-th disk. -/
theorem Fleet.disk (h : Fleet W w b B n E pv L) {j : Nat} (hj : j < n) {D : Dk} (hD : E j = some D) :
    ∃ d F, pv j = .pointer (some ⟨d, 0, none⟩) ∧ DiskAt w d D F ∧ (∀ x, F x → W.heap.size ≤ x) ∧ ∀ D' w', DiskPost w d D' F w' → Fleet W w' b B n (put E j (some D')) pv L ∧ Local w w' := by
  obtain ⟨F, G, h1, h2, h3, h4, h5, h6, h7⟩ := h
  have hd := h3 j hj
  rw [hD] at hd
  obtain ⟨d, hp, hd⟩ := hd
  refine ⟨d, G j, hp, hd, fun x hx => (h4 j x hj hx).1, fun D' w' hq => ?_⟩
  obtain ⟨G', q1, q2, q3⟩ := hq
  have hsz := h6.size
  have hGx : ∀ i x, i < n → i ≠ j → G i x → ¬ G' x := fun i x hi hij hx hg => by
    rcases q3 x hg with hg | hg
    · exact h5 i j x hi hj hij hx hg
    · have := (h3 i hi).lt x hx; omega
  refine ⟨⟨F, put G j G', h1.keep q2 (fun x hx hg => (h4 j x hj hg).2 hx), h2, fun i hi => ?_, fun i x hi hx => ?_, fun i k x hi hk hik hx hy => ?_, h6.trans' (q2.mono fun x _ hx => (h4 j x hj hx).1), fun q hq => ownsRow_keep (h7 q hq) q2 (fun x hx hg => ?_)⟩, fun g cs t fr hg ht => q2.at hg (hd.apart_of_type hg ht)⟩
  · by_cases e : i = j
    · subst e; rw [put_same, put_same]; exact ⟨d, hp, q1⟩
    · rw [put_other _ _ e, put_other _ _ e]; exact (h3 i hi).keep q2 (fun x hx hg => h5 i j x hi hj e hx hg)
  · by_cases e : i = j
    · subst e
      rw [put_same] at hx
      rcases q3 x hx with hg | hg
      · exact h4 i x hj hg
      · exact ⟨by omega, fun hf => by have := h1.lt x hf; omega⟩
    · rw [put_other _ _ e] at hx; exact h4 i x hi hx
  · by_cases e : i = j
    · subst e
      rw [put_same] at hx
      rw [put_other _ _ (Ne.symm hik)] at hy
      exact hGx k x hk (Ne.symm hik) hy hx
    · rw [put_other _ _ e] at hx
      by_cases e2 : k = j
      · subst e2
        rw [put_same] at hy
        exact hGx i x hi hik hx hy
      · rw [put_other _ _ e2] at hy
        exact h5 i k x hi hk hik hx hy
  · obtain ⟨cs, hcs⟩ := own_elem (h7 q hq) hx
    exact hd.apart_of_type hcs (by decide) hg
/-- One disk more, or the place of none. -/
theorem Fleet.add {w' : World} (h : Fleet W w b B n E pv L) {d : Nat} {D : Dk} {F' : Nat → Prop} (hd : DiskAt w' d D F') (hk : Keep NoF w w') (hF : ∀ x, F' x → w.heap.size ≤ x) : Fleet W w' b B (n + 1) (put E n (some D)) (put pv n (.pointer (some ⟨d, 0, none⟩))) L := by
  obtain ⟨F, G, h1, h2, h3, h4, h5, h6, h7⟩ := h
  have hsz := h6.size
  refine ⟨F, put G n F', h1.keep hk (fun _ _ h => h), h2, fun i hi => ?_, fun i x hi hx => ?_, fun i k x hi hk' hik hx hy => ?_, h6.ofNoF hk, fun q hq => ownsRow_keep (h7 q hq) hk (fun _ _ h => h)⟩
  · by_cases e : i = n
    · subst e; rw [put_same, put_same, put_same]; exact ⟨d, rfl, hd⟩
    · rw [put_other _ _ e, put_other _ _ e, put_other _ _ e]; exact (h3 i (by omega)).keep hk (fun _ _ h => h)
  · by_cases e : i = n
    · subst e
      rw [put_same] at hx
      have := hF x hx
      exact ⟨by omega, fun hf => by have := h1.lt x hf; omega⟩
    · rw [put_other _ _ e] at hx; exact h4 i x (by omega) hx
  · by_cases e : i = n
    · subst e
      rw [put_same] at hx
      rw [put_other _ _ (Ne.symm hik)] at hy
      have := hF x hx
      have := (h3 k (by omega)).lt x hy
      omega
    · rw [put_other _ _ e] at hx
      by_cases e2 : k = n
      · subst e2
        rw [put_same] at hy
        have := hF x hy
        have := (h3 i (by omega)).lt x hx
        omega
      · rw [put_other _ _ e2] at hy
        exact h5 i k x (by omega) (by omega) hik hx hy
theorem Fleet.addNone (h : Fleet W w b B n E pv L) : Fleet W w b B (n + 1) (put E n none) (put pv n (.pointer none)) L := by
  obtain ⟨F, G, h1, h2, h3, h4, h5, h6, h7⟩ := h
  refine ⟨F, put G n (fun _ => False), h1, h2, fun i hi => ?_, fun i x hi hx => ?_, fun i k x hi hk' hik hx hy => ?_, h6, h7⟩
  · by_cases e : i = n
    · subst e; rw [put_same, put_same, put_same]; exact ⟨rfl, fun _ h => h⟩
    · rw [put_other _ _ e, put_other _ _ e, put_other _ _ e]; exact h3 i (by omega)
  · by_cases e : i = n
    · subst e; rw [put_same] at hx; exact hx.elim
    · rw [put_other _ _ e] at hx; exact h4 i x (by omega) hx
  · by_cases e : i = n
    · subst e; rw [put_same] at hx; exact hx.elim
    · rw [put_other _ _ e] at hx
      by_cases e2 : k = n
      · subst e2; rw [put_same] at hy; exact hy.elim
      · rw [put_other _ _ e2] at hy
        exact h5 i k x (by omega) (by omega) hik hx hy
end

/-- The row of pointers that the call holds. -/
def Ptrs (w : World) (q n : Nat) (pv : Nat → Value) : Prop := ∃ cs, w.heap[q]? = some (.cells cs 25 (0, 0)) ∧ ∀ j, j < n → cs[j]? = some (pv j)
theorem Ptrs.local {w w' : World} {q n : Nat} {pv : Nat → Value} (h : Ptrs w q n pv) (hl : Local w w') : Ptrs w' q n pv := by
  obtain ⟨cs, h1, h2⟩ := h; exact ⟨cs, hl _ _ _ _ h1 (by decide), h2⟩
theorem Ptrs.cell {w : World} {q n : Nat} {pv : Nat → Value} (h : Ptrs w q n pv) {j : Nat} (hj : j < n) : w.cell? ⟨q, j, none⟩ = some (pv j) := by
  obtain ⟨cs, h1, h2⟩ := h; exact cell_at h1 j (h2 j hj)
theorem ptrs_of_own {w : World} {base n : Nat} {v : Value} {pv : Nat → Value} (h : w.ownsRow base 25 1 v n ((List.range n).map pv)) (hn : 1 ≤ n) : ∃ q cap, v = .slice (some ⟨q, 0, none⟩) n cap ∧ Ptrs w q n pv := by
  rcases h.2 with ⟨_, h0⟩ | ⟨g, cap, cur, hv, hg, hh, hc, hm, hs, ht⟩
  · omega
  · refine ⟨g, cap, hv, cur, hh, fun j hj => ?_⟩
    have : (cur.toList.take (n * 1))[j]? = some (pv j) := by rw [ht]; simp [hj]
    rw [List.getElem?_take, if_pos (by omega)] at this
    simpa using this

/-- The bay's disks are those of the call. -/
structure Like (n : Nat) (B : By) (E : Nat → Option Dk) : Prop where
  hn : B.n = n
  calm : B.Calm
  nc : B.NoneComing
  dev : ∀ j, j < n → B.dev (j * 3) = (E j).map (fun D => ⟨D, false, 0⟩)
theorem like_in {n : Nat} {B : By} {E : Nat → Option Dk} (h : Like n B E) {j : Nat} (hj : j < n) {D : Dk} (hD : E j = some D) : B.is (j : Int) ∧ B.dev ((j : Int).toNat * 3) = some ⟨D, false, 0⟩ ∧ B.in (j : Int) = some ⟨D, false, 0⟩ := by
  have hk : B.is (j : Int) := ⟨by omega, by rw [h.hn]; omega⟩
  have hd : B.dev ((j : Int).toNat * 3) = some ⟨D, false, 0⟩ := by
    rw [show (j : Int).toNat = j by simp, h.dev j hj, hD]; rfl
  exact ⟨hk, hd, by unfold By.in; rw [if_pos hk]; exact hd⟩
theorem like_plain {n : Nat} {B : By} {E : Nat → Option Dk} (h : Like n B E) (d : OpD) {j : Nat} (hj : j < n) (hs : d.slot = (j : Int)) {D : Dk} (hD : E j = some D) :
    Like n (B.plain d) (put E j (some (opg d D))) ∧ B.plainc d = opc d D ∧ B.plainl d = opl d D := by
  obtain ⟨h1, h2, h3⟩ := like_in h hj hD
  rw [← hs] at h1 h2
  refine ⟨?_, ?_, ?_⟩
  · rw [plain_op, calm_op h.calm h1 h2]
    refine ⟨h.hn, Calm.tick h.calm _ _ _, fun i hi => ?_, fun i hi => ?_⟩
    · simp only [By.setDev, put_other _ _ (show i ≠ d.slot.toNat * 3 by omega)]; exact h.nc i hi
    · have hst : d.slot.toNat = j := by omega
      by_cases e : i = j
      · subst e
        rw [put_same, hst]
        simp only [By.setDev, put_same]
        rfl
      · rw [put_other _ _ e, hst]
        simp only [By.setDev, put_other _ _ (show i * 3 ≠ j * 3 by omega)]
        exact h.dev i hi
  · rw [plain_code, calm_code h.calm h1 h2]; rfl
  · rw [plain_list, calm_reach h.calm h1 h2]; rfl
/-- Behind the Cut. -/
theorem like_cut {n : Nat} {B : By} {E : Nat → Option Dk} (h : Like n B E) (kl : List (Value × List Bool)) {j : Nat} (hj : j < n) {D : Dk} (hD : E j = some D) :
    (B.cut kl).tcode (j : Int) = 0 ∧ (B.cut kl).image (j : Int) = (D.crash (keepsFor kl j)).image ∧ (B.cut kl).pending (j : Int) = [] := by
  have hn : (B.cut kl).n = n := by show (B.cutTo kl B.n).n = n; rw [(cutTo_head B kl _).1, h.hn]
  have hk : (B.cut kl).is (j : Int) := ⟨by omega, by rw [hn]; omega⟩
  have hd : (B.cut kl).dev ((j : Int).toNat * 3) = some ⟨D.crash (keepsFor kl j), false, 0⟩ := by
    show (B.cutTo kl B.n).dev _ = _
    rw [cutTo_dev, show (j : Int).toNat = j by simp, if_pos ⟨by omega, by rw [h.hn]; omega⟩, h.dev j hj, hD, show j * 3 / 3 = j by omega]
    rfl
  have hi : (B.cut kl).in (j : Int) = some ⟨D.crash (keepsFor kl j), false, 0⟩ := by unfold By.in; rw [if_pos hk]; exact hd
  refine ⟨?_, ?_, ?_⟩
  · unfold By.tcode; rw [if_pos hk, hd]
  · unfold By.image; rw [hi]
  · unfold By.pending; rw [hi]; rfl
/-- A new bay, and new disks of the same sizes. -/
def szDk (l : List Int) (j : Nat) : Option Dk := if l.getD j 0 = 0 then none else some (Dk.new (l.getD j 0).toNat)
theorem like_fresh (l : List Int) {E : Nat → Option Dk} (hE : ∀ j, j < l.length → E j = szDk l j) : Like l.length (By.fresh l l.length) E := by
  refine ⟨rfl, ⟨rfl, rfl⟩, fresh_coming _ _, fun j hj => ?_⟩
  rw [hE j hj]
  show (if _ then _ else _) = _
  rw [if_pos ⟨by omega, by omega⟩, show j * 3 / 3 = j by omega]
  unfold freshDev szDk
  split <;> rfl
end Go.Proofs.Ytghnbbpoaeheaaa
