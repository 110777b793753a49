/- A bay beside disks of the call's own, and bytes that the call holds. -/
import Derived.Test.YtghnbbpoaeheaaaDL13
namespace Go.Proofs.Ytghnbbpoaeheaaa
open Go.RowKit

theorem i25 : (Try.prog.info? 25).map (fun i => (i.zero, i.size, i.bytes)) = some (some (.pointer none), 1, 8) := by kernel_rfl
section
variable {ops : Array Oper} {rest : List Oper} {o : Oper} {a : Act} {w : World} {Q : Exit → Act → World → Prop}
theorem wpList_app82 (hgd : o.guard = none) (s x : Operand) (ho : o.op = .call { callee := .builtin .append, args := #[s, x], argTypes := #[82, 82] })
    (base : Nat) (v : Value) (n : Nat) (xs : List Value) (hs : a.eval s = v) (hown : w.ownsRow base 25 1 v n xs)
    (ad : Addr) (m c : Nat) (news : List Value) (hx : a.eval x = .slice (some ad) m c) (hl : news.length = m) (hnews : ∀ j u, news[j]? = some u → w.cell? (ad.add j) = some u) (h1 : ∀ u ∈ news, u.oneCell' = true)
    (hb : n + m ≤ 1073741824) (hbase : base ≤ w.heap.size)
    (h : ∀ v' w', w'.ownsRow base 25 1 v' (n + m) (xs ++ news) → w.grownBy w' v.ownBlock → (v' = .slice none 0 0 ↔ v = .slice none 0 0 ∧ m = 0) → wpList Try.prog ops Q rest (a.put o.dst v') w') : wpList Try.prog ops Q (o :: rest) a w := by
  obtain ⟨i, hi, he⟩ := info_of i25
  simp only [Prod.mk.injEq] at he
  exact wpList_append_own w hgd s x 82 ho base 25 i (.pointer none) 1 8 Try.underlying82 hi he.1 he.2.1 he.2.2 rfl (by decide) v n xs hs hown ad m c news hx (by omega) hnews h1 (by unfold maxLen; omega) (by omega) hbase h
end

/-- A disk behind a pointer, or none. -/
def DkAt (w : World) (v : Value) (e : Option Dk) (G : Nat → Prop) : Prop :=
  match e with
  | none => v = .pointer none ∧ ∀ x, ¬ G x
  | some D => ∃ d, v = .pointer (some ⟨d, 0, none⟩) ∧ DiskAt w d D G
theorem DkAt.keep {w w' : World} {v : Value} {e : Option Dk} {G H : Nat → Prop} (h : DkAt w v e G) (hk : Keep H w w') (hG : ∀ x, G x → ¬ H x) : DkAt w' v e G := by
  cases e with
  | none => exact h
  | some D => obtain ⟨d, h1, h2⟩ := h; exact ⟨d, h1, h2.keep hk hG⟩
theorem DkAt.lt {w : World} {v : Value} {e : Option Dk} {G : Nat → Prop} (h : DkAt w v e G) : ∀ x, G x → x < w.heap.size := by
  cases e with
  | none => intro x hx; exact absurd hx (h.2 x)
  | some D => obtain ⟨d, _, h2⟩ := h; exact h2.lt
theorem DkAt.apart_of_type {w : World} {v : Value} {e : Option Dk} {G : Nat → Prop} (h : DkAt w v e G) {x : Nat} {cs : Array Value} {t : TypeId} {fr : Nat × Nat} (hx : w.heap[x]? = some (.cells cs t fr)) (ht : t ∉ bayTypes) : ¬ G x := by
  cases e with
  | none => exact h.2 x
  | some D => obtain ⟨d, _, h2⟩ := h; exact h2.apart_of_type hx ht

def Fleet (W w : World) (b : Nat) (B : By) (n : Nat) (E : Nat → Option Dk) (pv : Nat → Value) (L : List (Value × List Int)) : Prop :=
  ∃ (F : Nat → Prop) (G : Nat → Nat → Prop), BayAt w b B F ∧ (∀ x, F x → W.heap.size ≤ x) ∧ (∀ j, j < n → DkAt w (pv j) (E j) (G j)) ∧ (∀ j x, j < n → G j x → W.heap.size ≤ x ∧ ¬ F x) ∧ (∀ i j x, i < n → j < n → i ≠ j → G i x → ¬ G j x) ∧ Keep (Old W) W w ∧ ∀ q ∈ L, OwnB w 0 q.1 q.2
section
variable {W w : World} {b : Nat} {B : By} {n : Nat} {E : Nat → Option Dk} {pv : Nat → Value} {L : List (Value × List Int)}
theorem Fleet.old (h : Fleet W w b B n E pv L) : Keep (Old W) W w := by obtain ⟨_, _, _, _, _, _, _, h, _⟩ := h; exact h
theorem Fleet.own (h : Fleet W w b B n E pv L) {v : Value} {l : List Int} (hq : (v, l) ∈ L) : OwnB w 0 v l := by obtain ⟨_, _, _, _, _, _, _, _, h⟩ := h; exact h _ hq
theorem Fleet.bytes (h : Fleet W w b B n E pv L) {v : Value} {l : List Int} (hq : (v, l) ∈ L) : BytesAt w v l := (h.own hq).bytes
theorem Fleet.less {L' : List (Value × List Int)} (h : Fleet W w b B n E pv L) (hL : ∀ q ∈ L', q ∈ L) : Fleet W w b B n E pv L' := by
  obtain ⟨F, G, h1, h2, h3, h4, h5, h6, h7⟩ := h; exact ⟨F, G, h1, h2, h3, h4, h5, h6, fun q hq => h7 q (hL q hq)⟩
theorem Fleet.quiet {w' : World} (h : Fleet W w b B n E pv L) (hk : Keep NoF w w') : Fleet W w' b B n E pv L := by
  obtain ⟨F, G, h1, h2, h3, h4, h5, h6, h7⟩ := h
  exact ⟨F, G, h1.keep hk (fun _ _ h => h), h2, fun j hj => (h3 j hj).keep hk (fun _ _ h => h), h4, h5, h6.ofNoF hk, fun q hq => ownsRow_keep (h7 q hq) hk (fun _ _ h => h)⟩
theorem Fleet.mem (h : Fleet W w b B n E pv L) {v : Value} {l : List Int} (ho : OwnB w 0 v l) : Fleet W w b B n E pv ((v, l) :: L) := by
  obtain ⟨F, G, h1, h2, h3, h4, h5, h6, h7⟩ := h
  refine ⟨F, G, h1, h2, h3, h4, h5, h6, fun q hq => ?_⟩
  rcases List.mem_cons.1 hq with rfl | hq
  · exact ho
  · exact h7 q hq
theorem Fleet.start (h : Many W w 1 (fun _ => b) (fun _ => B) L) : Fleet W w b B 0 E pv L := by
  obtain ⟨F, h1, h2, h3, h4, h5⟩ := h
  exact ⟨F 0, fun _ _ => False, h1 0 (by omega), fun x hx => h3 0 x (by omega) hx, fun j hj => by omega, fun j x hj => by omega, fun i j x hi => by omega, h4, h5⟩
/-- A row that is no bay's, no disk's and none of the bytes' turns. -/
theorem Fleet.row {w' : World} {H : Nat → Prop} (h : Fleet W w b B n E pv L) (hk : Keep H w w') (hH : ∀ x, H x → W.heap.size ≤ x ∧ ∃ cs t fr, w.heap[x]? = some (Obj.cells cs t fr) ∧ t ∉ bayTypes ∧ t ≠ 5) : Fleet W w' b B n E pv L := by
  obtain ⟨F, G, h1, h2, h3, h4, h5, h6, h7⟩ := h
  refine ⟨F, G, h1.keep hk (fun x hx hh => ?_), h2, fun j hj => (h3 j hj).keep hk (fun x hx hh => ?_), h4, h5, h6.trans' (hk.mono fun x _ hx => (hH x hx).1), fun q hq => ownsRow_keep (h7 q hq) hk (fun x hx hh => ?_)⟩
  · obtain ⟨_, cs, t, fr, hc, ht, _⟩ := hH x hh; exact h1.apart_of_type hc ht hx
  · obtain ⟨_, cs, t, fr, hc, ht, _⟩ := hH x hh; exact (h3 j hj).apart_of_type hc ht hx
  · obtain ⟨_, cs, t, fr, hc, ht, h5'⟩ := hH x hh
    obtain ⟨cs', hcs⟩ := own_elem (h7 q hq) hx
    rw [hc] at hcs
    simp at hcs
    exact h5' hcs.2.1
/-- An operation on the bay. -/
theorem Fleet.bay (h : Fleet W w b B n E pv L) : ∃ F, BayAt w b B F ∧ (∀ x, F x → W.heap.size ≤ x) ∧ ∀ B' w', BayPost w b B' F w' → Fleet W w' b B' n E pv L ∧ Local w w' := by
  obtain ⟨F, G, h1, h2, h3, h4, h5, h6, h7⟩ := h
  refine ⟨F, h1, h2, fun B' w' hp => ?_⟩
  obtain ⟨F', q1, q2, q3⟩ := hp
  have hsz := h6.size
  refine ⟨⟨F', G, q1, fun x hx => ?_, fun j hj => (h3 j hj).keep q2 (fun x hx => (h4 j x hj hx).2), fun j x hj hx => ⟨(h4 j x hj hx).1, fun hf => ?_⟩, h5, h6.trans' (q2.mono fun x _ hx => h2 x hx), fun q hq => (h7 q hq).past h1 q2⟩, Local.post h1 q2⟩
  · rcases q3 x hx with hx | hx
    · exact h2 x hx
    · omega
  · rcases q3 x hf with hf | hf
    · exact (h4 j x hj hx).2 hf
    · have := (h3 j hj).lt x hx; omega
/-- An operation on the j-th disk. -/
theorem Fleet.disk (h : Fleet W w b B n E pv L) {j : Nat} (hj : j < n) {D : Dk} (hD : E j = some D) :
    ∃ d F, pv j = .pointer (some ⟨d, 0, none⟩) ∧ DiskAt w d D F ∧ (∀ x, F x → W.heap.size ≤ x) ∧ ∀ D' w', DiskPost w d D' F w' → Fleet W w' b B n (put E j (some D')) pv L ∧ Local w w' := by
  obtain ⟨F, G, h1, h2, h3, h4, h5, h6, h7⟩ := h
  have hd := h3 j hj
  rw [hD] at hd
  obtain ⟨d, hp, hd⟩ := hd
  refine ⟨d, G j, hp, hd, fun x hx => (h4 j x hj hx).1, fun D' w' hq => ?_⟩
  obtain ⟨G', q1, q2, q3⟩ := hq
  have hsz := h6.size
  have hGx : ∀ i x, i < n → i ≠ j → G i x → ¬ G' x := fun i x hi hij hx hg => by
    rcases q3 x hg with hg | hg
    · exact h5 i j x hi hj hij hx hg
    · have := (h3 i hi).lt x hx; omega
  refine ⟨⟨F, put G j G', h1.keep q2 (fun x hx hg => (h4 j x hj hg).2 hx), h2, fun i hi => ?_, fun i x hi hx => ?_, fun i k x hi hk hik hx hy => ?_, h6.trans' (q2.mono fun x _ hx => (h4 j x hj hx).1), fun q hq => ownsRow_keep (h7 q hq) q2 (fun x hx hg => ?_)⟩, fun g cs t fr hg ht => q2.at hg (hd.apart_of_type hg ht)⟩
  · by_cases e : i = j
    · subst e; rw [put_same, put_same]; exact ⟨d, hp, q1⟩
    · rw [put_other _ _ e, put_other _ _ e]; exact (h3 i hi).keep q2 (fun x hx hg => h5 i j x hi hj e hx hg)
  · by_cases e : i = j
    · subst e
      rw [put_same] at hx
      rcases q3 x hx with hg | hg
      · exact h4 i x hj hg
      · exact ⟨by omega, fun hf => by have := h1.lt x hf; omega⟩
    · rw [put_other _ _ e] at hx; exact h4 i x hi hx
  · by_cases e : i = j
    · subst e
      rw [put_same] at hx
      rw [put_other _ _ (Ne.symm hik)] at hy
      exact hGx k x hk (Ne.symm hik) hy hx
    · rw [put_other _ _ e] at hx
      by_cases e2 : k = j
      · subst e2
        rw [put_same] at hy
        exact hGx i x hi hik hx hy
      · rw [put_other _ _ e2] at hy
        exact h5 i k x hi hk hik hx hy
  · obtain ⟨cs, hcs⟩ := own_elem (h7 q hq) hx
    exact hd.apart_of_type hcs (by decide) hg
/-- One disk more, or the place of none. -/
theorem Fleet.add {w' : World} (h : Fleet W w b B n E pv L) {d : Nat} {D : Dk} {F' : Nat → Prop} (hd : DiskAt w' d D F') (hk : Keep NoF w w') (hF : ∀ x, F' x → w.heap.size ≤ x) : Fleet W w' b B (n + 1) (put E n (some D)) (put pv n (.pointer (some ⟨d, 0, none⟩))) L := by
  obtain ⟨F, G, h1, h2, h3, h4, h5, h6, h7⟩ := h
  have hsz := h6.size
  refine ⟨F, put G n F', h1.keep hk (fun _ _ h => h), h2, fun i hi => ?_, fun i x hi hx => ?_, fun i k x hi hk' hik hx hy => ?_, h6.ofNoF hk, fun q hq => ownsRow_keep (h7 q hq) hk (fun _ _ h => h)⟩
  · by_cases e : i = n
    · subst e; rw [put_same, put_same, put_same]; exact ⟨d, rfl, hd⟩
    · rw [put_other _ _ e, put_other _ _ e, put_other _ _ e]; exact (h3 i (by omega)).keep hk (fun _ _ h => h)
  · by_cases e : i = n
    · subst e
      rw [put_same] at hx
      have := hF x hx
      exact ⟨by omega, fun hf => by have := h1.lt x hf; omega⟩
    · rw [put_other _ _ e] at hx; exact h4 i x (by omega) hx
  · by_cases e : i = n
    · subst e
      rw [put_same] at hx
      rw [put_other _ _ (Ne.symm hik)] at hy
      have := hF x hx
      have := (h3 k (by omega)).lt x hy
      omega
    · rw [put_other _ _ e] at hx
      by_cases e2 : k = n
      · subst e2
        rw [put_same] at hy
        have := hF x hy
        have := (h3 i (by omega)).lt x hx
        omega
      · rw [put_other _ _ e2] at hy
        exact h5 i k x (by omega) (by omega) hik hx hy
theorem Fleet.addNone (h : Fleet W w b B n E pv L) : Fleet W w b B (n + 1) (put E n none) (put pv n (.pointer none)) L := by
  obtain ⟨F, G, h1, h2, h3, h4, h5, h6, h7⟩ := h
  refine ⟨F, put G n (fun _ => False), h1, h2, fun i hi => ?_, fun i x hi hx => ?_, fun i k x hi hk' hik hx hy => ?_, h6, h7⟩
  · by_cases e : i = n
    · subst e; rw [put_same, put_same, put_same]; exact ⟨rfl, fun _ h => h⟩
    · rw [put_other _ _ e, put_other _ _ e, put_other _ _ e]; exact h3 i (by omega)
  · by_cases e : i = n
    · subst e; rw [put_same] at hx; exact hx.elim
    · rw [put_other _ _ e] at hx; exact h4 i x (by omega) hx
  · by_cases e : i = n
    · subst e; rw [put_same] at hx; exact hx.elim
    · rw [put_other _ _ e] at hx
      by_cases e2 : k = n
      · subst e2; rw [put_same] at hy; exact hy.elim
      · rw [put_other _ _ e2] at hy
        exact h5 i k x (by omega) (by omega) hik hx hy
end

/-- The row of pointers that the call holds. -/
def Ptrs (w : World) (q n : Nat) (pv : Nat → Value) : Prop := ∃ cs, w.heap[q]? = some (.cells cs 25 (0, 0)) ∧ ∀ j, j < n → cs[j]? = some (pv j)
theorem Ptrs.local {w w' : World} {q n : Nat} {pv : Nat → Value} (h : Ptrs w q n pv) (hl : Local w w') : Ptrs w' q n pv := by
  obtain ⟨cs, h1, h2⟩ := h; exact ⟨cs, hl _ _ _ _ h1 (by decide), h2⟩
theorem Ptrs.cell {w : World} {q n : Nat} {pv : Nat → Value} (h : Ptrs w q n pv) {j : Nat} (hj : j < n) : w.cell? ⟨q, j, none⟩ = some (pv j) := by
  obtain ⟨cs, h1, h2⟩ := h; exact cell_at h1 j (h2 j hj)
theorem ptrs_of_own {w : World} {base n : Nat} {v : Value} {pv : Nat → Value} (h : w.ownsRow base 25 1 v n ((List.range n).map pv)) (hn : 1 ≤ n) : ∃ q cap, v = .slice (some ⟨q, 0, none⟩) n cap ∧ Ptrs w q n pv := by
  rcases h.2 with ⟨_, h0⟩ | ⟨g, cap, cur, hv, hg, hh, hc, hm, hs, ht⟩
  · omega
  · refine ⟨g, cap, hv, cur, hh, fun j hj => ?_⟩
    have : (cur.toList.take (n * 1))[j]? = some (pv j) := by rw [ht]; simp [hj]
    rw [List.getElem?_take, if_pos (by omega)] at this
    simpa using this

/-- The bay's disks are those of the call. -/
structure Like (n : Nat) (B : By) (E : Nat → Option Dk) : Prop where
  hn : B.n = n
  calm : B.Calm
  nc : B.NoneComing
  dev : ∀ j, j < n → B.dev (j * 3) = (E j).map (fun D => ⟨D, false, 0⟩)
theorem like_in {n : Nat} {B : By} {E : Nat → Option Dk} (h : Like n B E) {j : Nat} (hj : j < n) {D : Dk} (hD : E j = some D) : B.is (j : Int) ∧ B.dev ((j : Int).toNat * 3) = some ⟨D, false, 0⟩ ∧ B.in (j : Int) = some ⟨D, false, 0⟩ := by
  have hk : B.is (j : Int) := ⟨by omega, by rw [h.hn]; omega⟩
  have hd : B.dev ((j : Int).toNat * 3) = some ⟨D, false, 0⟩ := by
    rw [show (j : Int).toNat = j by simp, h.dev j hj, hD]; rfl
  exact ⟨hk, hd, by unfold By.in; rw [if_pos hk]; exact hd⟩
theorem like_plain {n : Nat} {B : By} {E : Nat → Option Dk} (h : Like n B E) (d : OpD) {j : Nat} (hj : j < n) (hs : d.slot = (j : Int)) {D : Dk} (hD : E j = some D) :
    Like n (B.plain d) (put E j (some (opg d D))) ∧ B.plainc d = opc d D ∧ B.plainl d = opl d D := by
  obtain ⟨h1, h2, h3⟩ := like_in h hj hD
  rw [← hs] at h1 h2
  refine ⟨?_, ?_, ?_⟩
  · rw [plain_op, calm_op h.calm h1 h2]
    refine ⟨h.hn, Calm.tick h.calm _ _ _, fun i hi => ?_, fun i hi => ?_⟩
    · simp only [By.setDev, put_other _ _ (show i ≠ d.slot.toNat * 3 by omega)]; exact h.nc i hi
    · have hst : d.slot.toNat = j := by omega
      by_cases e : i = j
      · subst e
        rw [put_same, hst]
        simp only [By.setDev, put_same]
        rfl
      · rw [put_other _ _ e, hst]
        simp only [By.setDev, put_other _ _ (show i * 3 ≠ j * 3 by omega)]
        exact h.dev i hi
  · rw [plain_code, calm_code h.calm h1 h2]; rfl
  · rw [plain_list, calm_reach h.calm h1 h2]; rfl
/-- Behind the Cut. -/
theorem like_cut {n : Nat} {B : By} {E : Nat → Option Dk} (h : Like n B E) (kl : List (Value × List Bool)) {j : Nat} (hj : j < n) {D : Dk} (hD : E j = some D) :
    (B.cut kl).tcode (j : Int) = 0 ∧ (B.cut kl).image (j : Int) = (D.crash (keepsFor kl j)).image ∧ (B.cut kl).pending (j : Int) = [] := by
  have hn : (B.cut kl).n = n := by show (B.cutTo kl B.n).n = n; rw [(cutTo_head B kl _).1, h.hn]
  have hk : (B.cut kl).is (j : Int) := ⟨by omega, by rw [hn]; omega⟩
  have hd : (B.cut kl).dev ((j : Int).toNat * 3) = some ⟨D.crash (keepsFor kl j), false, 0⟩ := by
    show (B.cutTo kl B.n).dev _ = _
    rw [cutTo_dev, show (j : Int).toNat = j by simp, if_pos ⟨by omega, by rw [h.hn]; omega⟩, h.dev j hj, hD, show j * 3 / 3 = j by omega]
    rfl
  have hi : (B.cut kl).in (j : Int) = some ⟨D.crash (keepsFor kl j), false, 0⟩ := by unfold By.in; rw [if_pos hk]; exact hd
  refine ⟨?_, ?_, ?_⟩
  · unfold By.tcode; rw [if_pos hk, hd]
  · unfold By.image; rw [hi]
  · unfold By.pending; rw [hi]; rfl
/-- A new bay, and new disks of the same sizes. -/
def szDk (l : List Int) (j : Nat) : Option Dk := if l.getD j 0 = 0 then none else some (Dk.new (l.getD j 0).toNat)
theorem like_fresh (l : List Int) {E : Nat → Option Dk} (hE : ∀ j, j < l.length → E j = szDk l j) : Like l.length (By.fresh l l.length) E := by
  refine ⟨rfl, ⟨rfl, rfl⟩, fresh_coming _ _, fun j hj => ?_⟩
  rw [hE j hj]
  show (if _ then _ else _) = _
  rw [if_pos ⟨by omega, by omega⟩, show j * 3 / 3 = j by omega]
  unfold freshDev szDk
  split <;> rfl
end Go.Proofs.Ytghnbbpoaeheaaa

/- BayAlone: what its rounds ask, at the operation written out. -/
namespace Go.Proofs.Ytghnbbpoaeheaaa
open Go.RowKit

section
variable {W w : World} {b : Nat} {B : By} {n : Nat} {E : Nat → Option Dk} {pv : Nat → Value} {L : List (Value × List Int)} {q g : Nat} {d : OpD}
theorem Fleet.ptr (h : Fleet W w b B n E pv L) {j : Nat} (hj : j < n) : (E j = none ∧ pv j = .pointer none) ∨ ∃ D d, E j = some D ∧ pv j = .pointer (some ⟨d, 0, none⟩) := by
  obtain ⟨F, G, h1, h2, h3, h4, h5, h6, h7⟩ := h
  have := h3 j hj
  cases hE : E j with
  | none => rw [hE] at this; exact .inl ⟨rfl, this.1⟩
  | some D => rw [hE] at this; obtain ⟨d, h, _⟩ := this; exact .inr ⟨D, d, rfl, h⟩
/-- The bay, the disks, the row of pointers, the copy of an operation. -/
def Wf (W : World) (b : Nat) (B : By) (n : Nat) (E : Nat → Option Dk) (pv : Nat → Value) (q g : Nat) (d : OpD) (L : List (Value × List Int)) (w : World) : Prop :=
  Fleet W w b B n E pv L ∧ Ptrs w q n pv ∧ w.heap[g]? = some (.cells (opCells d).toArray 69 (0, 0))
theorem Wf.cells (h : Wf W b B n E pv q g d L w) : (w.cell? ⟨g, 0, none⟩ = some (.int .i64 d.kind) ∧ w.cell? ⟨g, 1, none⟩ = some (.int .i64 d.slot) ∧ w.cell? ⟨g, 2, none⟩ = some (.int .i64 d.n)) ∧ w.cell? ⟨g, 3, none⟩ = some d.bv ∧ w.cell? ⟨g, 4, none⟩ = some d.kv ∧ g < w.heap.size :=
  ⟨⟨cell_at h.2.2 0 rfl, cell_at h.2.2 1 rfl, cell_at h.2.2 2 rfl⟩, cell_at h.2.2 3 rfl, cell_at h.2.2 4 rfl, lt_of_heap h.2.2⟩
theorem Wf.quiet {w' : World} (h : Wf W b B n E pv q g d L w) (hk : Keep NoF w w') : Wf W b B n E pv q g d L w' :=
  ⟨h.1.quiet hk, h.2.1.local (Local.noF hk), hk.at h.2.2 (fun h => h)⟩
theorem wf_start (h : Fleet W w b B n E pv L) (hp : Ptrs w q n pv) (d : OpD) : Wf W b B n E pv q w.heap.size d L (w.alloc (.cells (opCells d).toArray 69)) :=
  ⟨h.quiet (Keep.alloc _ _ _), hp.local (Local.noF (Keep.alloc _ _ _)), heap_alloc_new w _⟩
def WfRead (W : World) (b : Nat) (B : By) (n : Nat) (E : Nat → Option Dk) (pv : Nat → Value) (q g : Nat) (d : OpD) (L : List (Value × List Int)) (c : Int) (l : List Int) (v : Value) (w' : World) : Prop :=
  ∃ x cap, v = .tuple #[.slice x l.length cap, .int .u16 c] ∧ Wf W b B n E pv q g d ((.slice x l.length cap, l) :: L) w'
theorem opat_apart {F : Nat → Prop} (hd : OpAt W d) (hF : ∀ x, F x → W.heap.size ≤ x) : d.bl ≠ [] → ∀ a n c, d.bv = .slice (some a) n c → ¬ F a.block := fun hne a n c hva hf => by
  obtain ⟨a', cap, hv, h1, h2, h3⟩ := hd.b
  obtain ⟨bb, o, ha, hr⟩ := h3 hne
  rw [hva] at hv
  simp at hv
  obtain ⟨x, hx⟩ := List.exists_mem_of_ne_nil _ hne
  obtain ⟨j, hj, rfl⟩ := List.mem_iff_getElem.1 hx
  have hc := hr j (.int .u8 d.bl[j]) (by simp [u8s, hj])
  have hlt := World.block_lt_of_cell? W _ hc
  have hge := hF _ hf
  have : a = ⟨bb, o, none⟩ := by rw [ha] at hv; exact Option.some.inj hv.1
  subst this
  exact absurd hlt (by simpa using hge)
theorem Wf.plain (h : Wf W b B n E pv q g d L w) (hs : B.Small 1000000) (hd : OpAt W d) : Calls Try.prog 28 #[.pointer (some ⟨b, 0, none⟩), .agg (opCells d).toArray] w (Gives (WfRead W b (B.plain d) n E pv q g d L (B.plainc d) (B.plainl d))) := by
  have hk := h.1.old
  obtain ⟨F, hb, hF, hst⟩ := h.1.bay
  refine Gives.imp (plain_any hb d (hd.old hk) (opat_apart hd hF) hs) fun v w' hg => ?_
  obtain ⟨s, rfl, ho, F', h2, h3, h4, _⟩ := hg
  obtain ⟨x, cap, rfl⟩ := own_form ho
  obtain ⟨k1, k2⟩ := hst _ _ ⟨F', h2, h3, h4⟩
  exact ⟨x, cap, rfl, k1.mem (ho.mono (Nat.zero_le _)), h.2.1.local k2, k2 _ _ _ _ h.2.2 (by decide)⟩
theorem Wf.read (h : Wf W b B n E pv q g d L w) {j d0 : Nat} (hj : j < n) {D : Dk} (hD : E j = some D) (hp : pv j = .pointer (some ⟨d0, 0, none⟩)) (at_ : Int) :
    Calls Try.prog 36 #[.pointer (some ⟨d0, 0, none⟩), .int .i64 at_] w (Gives (WfRead W b B n E pv q g d L (D.code at_) (D.read at_))) := by
  obtain ⟨d1, F, h1, h2, h3, h4⟩ := h.1.disk hj hD
  rw [hp] at h1
  obtain rfl : d0 = d1 := by simpa using h1
  refine Gives.imp (read_any h2 at_) fun v w' hg => ?_
  obtain ⟨s, rfl, ho, hk⟩ := hg
  obtain ⟨x, cap, rfl⟩ := own_form ho
  have := h.quiet hk
  exact ⟨x, cap, rfl, this.1.mem (ho.mono (Nat.zero_le _)), this.2.1, this.2.2⟩
theorem Wf.write (h : Wf W b B n E pv q g d L w) {j d0 : Nat} (hj : j < n) {D : Dk} (hD : E j = some D) (hp : pv j = .pointer (some ⟨d0, 0, none⟩)) (at_ : Int) {v : Value} {xs : List Int} (hv : BytesAt W v xs) (hcl : D.cache.length ≤ 1000000) :
    Calls Try.prog 37 #[.pointer (some ⟨d0, 0, none⟩), .int .i64 at_, v] w (Gives fun v w' => v = .int .u16 (D.wcode at_ xs.length) ∧ Wf W b B n (put E j (some (D.write at_ xs))) pv q g d L w') := by
  have ho := h.1.old
  obtain ⟨d1, F, h1, h2, h3, h4⟩ := h.1.disk hj hD
  rw [hp] at h1
  obtain rfl : d0 = d1 := by simpa using h1
  refine Gives.imp (write_any h2 at_ v xs (hv.old ho) hcl) fun v w' hg => ?_
  obtain ⟨k1, k2⟩ := h4 _ _ hg.2
  exact ⟨hg.1, k1, h.2.1.local k2, k2 _ _ _ _ h.2.2 (by decide)⟩
theorem Wf.flush (h : Wf W b B n E pv q g d L w) {j d0 : Nat} (hj : j < n) {D : Dk} (hD : E j = some D) (hp : pv j = .pointer (some ⟨d0, 0, none⟩)) (hcl : D.cache.length ≤ 1000000) :
    Calls Try.prog 38 #[.pointer (some ⟨d0, 0, none⟩)] w (Gives fun v w' => v = .int .u16 D.fcode ∧ Wf W b B n (put E j (some D.flush)) pv q g d L w') := by
  obtain ⟨d1, F, h1, h2, h3, h4⟩ := h.1.disk hj hD
  rw [hp] at h1
  obtain rfl : d0 = d1 := by simpa using h1
  refine Gives.imp (flush_any h2 hcl) fun v w' hg => ?_
  obtain ⟨k1, k2⟩ := h4 _ _ hg.2
  exact ⟨hg.1, k1, h.2.1.local k2, k2 _ _ _ _ h.2.2 (by decide)⟩
/-- Two lists of bytes, one of them held. -/
theorem Wf.same (h : Wf W b B n E pv q g d L w) {v1 v2 : Value} {l1 l2 : List Int} (h1 : BytesAt w v1 l1) (h2 : BytesAt w v2 l2) (he : l1 = l2) : Calls Try.prog 19 #[v1, v2] w (Gives fun v w' => v = .bool true ∧ Wf W b B n E pv q g d L w') :=
  Gives.imp (same_any h1 h2) fun v w' hg => ⟨hg.1.trans (by simp [he]), h.quiet hg.2⟩
end

theorem Wf.cellsY {W w : World} {b : Nat} {B : By} {n : Nat} {E : Nat → Option Dk} {pv : Nat → Value} {q g : Nat} {k s nn : Int} {bv kv : Value} {bl : List Int} {kl : List (Value × List Bool)} {L : List (Value × List Int)} (h : Wf W b B n E pv q g ⟨k, s, nn, bv, bl, kv, kl⟩ L w) :
    (w.cell? ⟨g, 0, none⟩ = some (.int .i64 k) ∧ w.cell? ⟨g, 1, none⟩ = some (.int .i64 s) ∧ w.cell? ⟨g, 2, none⟩ = some (.int .i64 nn)) ∧ w.cell? ⟨g, 3, none⟩ = some bv ∧ w.cell? ⟨g, 4, none⟩ = some kv ∧ g < w.heap.size := h.cells
theorem put_self {α : Type} {f : Nat → α} {i : Nat} {x : α} (h : f i = x) : put f i x = f := by
  funext j
  unfold put
  split
  · rename_i e; rw [e, h]
  · rfl
/-- How far BayAlone's loop over the script has come. -/
def AloneAt (W : World) (b q n : Nat) (pv : Nat → Value) (i : Nat) (w : World) : Prop := ∃ B E, Fleet W w b B n E pv [] ∧ Ptrs w q n pv ∧ Like n B E ∧ B.Small i

/-- One round: the bay's operation, then the disk's; the operation is written out. -/
theorem alone_facts {W : World} {b q n i g : Nat} {pv : Nat → Value} {B : By} {E : Nat → Option Dk} (hlk : Like n B E) (hS : B.Small i) (hi : i ≤ 100000) {j : Nat} (hj : j < n) {D : Dk} {d0 : Nat} (hD : E j = some D) (hp : pv j = .pointer (some ⟨d0, 0, none⟩))
    {k nn : Int} {ba ka : Option Addr} {bcap kcap : Nat} {bl : List Int} {kl : List (Value × List Bool)} (hd : OpAt W ⟨k, j, nn, .slice ba bl.length bcap, bl, .slice ka kl.length kcap, kl⟩) :
    ∃ B' E' c l, (∀ L w, Wf W b B n E pv q g ⟨k, j, nn, .slice ba bl.length bcap, bl, .slice ka kl.length kcap, kl⟩ L w → Calls Try.prog 28 #[.pointer (some ⟨b, 0, none⟩), .agg #[.int .i64 k, .int .i64 j, .int .i64 nn, .slice ba bl.length bcap, .slice ka kl.length kcap]] w (Gives (WfRead W b B' n E pv q g ⟨k, j, nn, .slice ba bl.length bcap, bl, .slice ka kl.length kcap, kl⟩ L c l))) ∧
      (k = 1 → ∀ L w, Wf W b B' n E pv q g ⟨k, j, nn, .slice ba bl.length bcap, bl, .slice ka kl.length kcap, kl⟩ L w → Calls Try.prog 36 #[.pointer (some ⟨d0, 0, none⟩), .int .i64 nn] w (Gives (WfRead W b B' n E' pv q g ⟨k, j, nn, .slice ba bl.length bcap, bl, .slice ka kl.length kcap, kl⟩ L c l))) ∧
      (k = 2 → l = [] ∧ ∀ L w, Wf W b B' n E pv q g ⟨k, j, nn, .slice ba bl.length bcap, bl, .slice ka kl.length kcap, kl⟩ L w → Calls Try.prog 37 #[.pointer (some ⟨d0, 0, none⟩), .int .i64 nn, .slice ba bl.length bcap] w (Gives fun v w' => v = .int .u16 c ∧ Wf W b B' n E' pv q g ⟨k, j, nn, .slice ba bl.length bcap, bl, .slice ka kl.length kcap, kl⟩ L w')) ∧
      (k = 3 → l = [] ∧ ∀ L w, Wf W b B' n E pv q g ⟨k, j, nn, .slice ba bl.length bcap, bl, .slice ka kl.length kcap, kl⟩ L w → Calls Try.prog 38 #[.pointer (some ⟨d0, 0, none⟩)] w (Gives fun v w' => v = .int .u16 c ∧ Wf W b B' n E' pv q g ⟨k, j, nn, .slice ba bl.length bcap, bl, .slice ka kl.length kcap, kl⟩ L w')) ∧
      ∀ L w, Wf W b B' n E' pv q g ⟨k, j, nn, .slice ba bl.length bcap, bl, .slice ka kl.length kcap, kl⟩ L w → AloneAt W b q n pv (i + 1) w := by
  obtain ⟨p1, p2, p3⟩ := like_plain hlk ⟨k, j, nn, .slice ba bl.length bcap, bl, .slice ka kl.length kcap, kl⟩ hj rfl hD
  have hS' := Small.plain hS ⟨k, j, nn, .slice ba bl.length bcap, bl, .slice ka kl.length kcap, kl⟩
  have hcl : D.cache.length ≤ 1000000 := by
    have := hS.cl (j * 3) ⟨D, false, 0⟩ (by rw [hlk.dev j hj, hD]; rfl)
    simp only at this
    omega
  refine ⟨_, _, _, _, fun L w h => Wf.plain h (hS.mono (by omega)) hd, fun hk L w h => ?_, fun hk => ⟨?_, fun L w h => ?_⟩, fun hk => ⟨?_, fun L w h => ?_⟩, fun L w h => ⟨_, put E j (some (opg _ D)), h.1.less (fun q hq => by cases hq), h.2.1, p1, by simpa using hS'⟩⟩
  · rw [p2, p3]
    subst hk
    have e : put E j (some (opg ⟨1, j, nn, .slice ba bl.length bcap, bl, .slice ka kl.length kcap, kl⟩ D)) = E := put_self hD
    rw [e]
    exact Wf.read h hj hD hp nn
  · rw [p3]; subst hk; rfl
  · rw [p2]
    subst hk
    exact Wf.write h hj hD hp nn hd.b hcl
  · rw [p3]; subst hk; rfl
  · rw [p2]
    subst hk
    exact Wf.flush h hj hD hp hcl

/-- The row of pointers has grown by one. -/
theorem range_put {pv : Nat → Value} {i : Nat} {p : Value} : (List.range i).map pv ++ [p] = (List.range (i + 1)).map (put pv i p) := by
  rw [List.range_succ, List.map_append]
  congr 1
  · refine List.map_congr_left fun j hj => ?_
    rw [put_other _ _ (by have := List.mem_range.1 hj; omega)]
  · simp
theorem grow_row {W wr w1 w' : World} {b : Nat} {B : By} {i : Nat} {E : Nat → Option Dk} {pv : Nat → Value} {p v v' : Value} (hf : Fleet W w1 b B (i + 1) E (put pv i p) []) (ho : wr.ownsRow W.heap.size 25 1 v i ((List.range i).map pv)) (hk : Keep NoF wr w1)
    (ho' : w'.ownsRow W.heap.size 25 1 v' (i + 1) ((List.range i).map pv ++ [p])) (hg : (w1.alloc (.cells #[p] 25)).grownBy w' v.ownBlock) : Fleet W w' b B (i + 1) E (put pv i p) [] ∧ w'.ownsRow W.heap.size 25 1 v' (i + 1) ((List.range (i + 1)).map (put pv i p)) := by
  refine ⟨?_, by rw [← range_put]; exact ho'⟩
  have h1 : Fleet W (w1.alloc (.cells #[p] 25)) b B (i + 1) E (put pv i p) [] := hf.quiet (Keep.alloc _ _ _)
  have h2 : (w1.alloc (.cells #[p] 25)).ownsRow W.heap.size 25 1 v i ((List.range i).map pv) := World.ownsRow.alloc (ownsRow_keep ho hk (fun _ _ h => h)) _
  refine h1.row (H := fun x => v.ownBlock = some x) (Keep.grown hg fun x hx => hx) fun x hx => ⟨ownBlock_ge h2 hx, ?_⟩
  obtain ⟨cs, hcs⟩ := own_elem h2 hx
  exact ⟨cs, 25, _, hcs, by decide, by decide⟩
end Go.Proofs.Ytghnbbpoaeheaaa
