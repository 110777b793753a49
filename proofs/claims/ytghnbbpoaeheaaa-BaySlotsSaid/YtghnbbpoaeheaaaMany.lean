/- Some bays beside each other in memory, and bytes that the call holds: what an operation on one of them leaves. -/
import Derived.Test.YtghnbbpoaeheaaaBay10
namespace Go.Proofs.Ytghnbbpoaeheaaa
open Go.RowKit

def Many (W w : World) (m : Nat) (p : Nat → Nat) (B : Nat → By) (L : List (Value × List Int)) : Prop :=
  ∃ F : Nat → Nat → Prop, (∀ i, i < m → BayAt w (p i) (B i) (F i)) ∧ (∀ i j x, i < m → j < m → i ≠ j → F i x → ¬ F j x) ∧ (∀ i x, i < m → F i x → W.heap.size ≤ x) ∧ Keep (Old W) W w ∧ ∀ q ∈ L, OwnB w 0 q.1 q.2

theorem OwnB.past {w w' : World} {b : Nat} {B : By} {F : Nat → Prop} {v : Value} {l : List Int} (h : OwnB w 0 v l) (hb : BayAt w b B F) (hk : Keep F w w') : OwnB w' 0 v l :=
  ownsRow_keep h hk (fun x hx => by obtain ⟨cs, hcs⟩ := own_elem h hx; exact hb.apart_of_type hcs (by decide))

theorem Many.old {W w : World} {m : Nat} {p : Nat → Nat} {B : Nat → By} {L : List (Value × List Int)} (h : Many W w m p B L) : Keep (Old W) W w := by
  obtain ⟨_, _, _, _, h, _⟩ := h; exact h
theorem Many.own {W w : World} {m : Nat} {p : Nat → Nat} {B : Nat → By} {L : List (Value × List Int)} (h : Many W w m p B L) {v : Value} {l : List Int} (hq : (v, l) ∈ L) : OwnB w 0 v l := by
  obtain ⟨_, _, _, _, _, h⟩ := h; exact h _ hq
theorem Many.bytes {W w : World} {m : Nat} {p : Nat → Nat} {B : Nat → By} {L : List (Value × List Int)} (h : Many W w m p B L) {v : Value} {l : List Int} (hq : (v, l) ∈ L) : BytesAt w v l := (h.own hq).bytes
theorem Many.start0 (W : World) (p : Nat → Nat) (B : Nat → By) : Many W W 0 p B [] := ⟨fun _ _ => False, fun _ h => by omega, fun _ _ _ h => by omega, fun _ _ h => by omega, Keep.refl _ _, fun q hq => by cases hq⟩
theorem Many.less {W w : World} {m : Nat} {p : Nat → Nat} {B : Nat → By} {L L' : List (Value × List Int)} (h : Many W w m p B L) (hL : ∀ q ∈ L', q ∈ L) : Many W w m p B L' := by
  obtain ⟨F, h1, h2, h3, h4, h5⟩ := h; exact ⟨F, h1, h2, h3, h4, fun q hq => h5 q (hL q hq)⟩
theorem Many.quiet {W w w' : World} {m : Nat} {p : Nat → Nat} {B : Nat → By} {L : List (Value × List Int)} (h : Many W w m p B L) (hk : Keep NoF w w') : Many W w' m p B L := by
  obtain ⟨F, h1, h2, h3, h4, h5⟩ := h
  exact ⟨F, fun i hi => (h1 i hi).keep hk (fun _ _ h => h), h2, h3, h4.ofNoF hk, fun q hq => ownsRow_keep (h5 q hq) hk (fun _ _ h => h)⟩
theorem Many.mem {W w : World} {m : Nat} {p : Nat → Nat} {B : Nat → By} {L : List (Value × List Int)} (h : Many W w m p B L) {v : Value} {l : List Int} (ho : OwnB w 0 v l) : Many W w m p B ((v, l) :: L) := by
  obtain ⟨F, h1, h2, h3, h4, h5⟩ := h
  refine ⟨F, h1, h2, h3, h4, fun q hq => ?_⟩
  rcases List.mem_cons.1 hq with rfl | hq
  · exact ho
  · exact h5 q hq
/-- A bay more. -/
theorem Many.add {W w w' : World} {m : Nat} {p : Nat → Nat} {B : Nat → By} {L : List (Value × List Int)} (h : Many W w m p B L) {b : Nat} {B' : By} (hn : NewBay w b B' w') : Many W w' (m + 1) (put p m b) (put B m B') L := by
  obtain ⟨F, h1, h2, h3, h4, h5⟩ := h
  obtain ⟨G, g1, g2, g3⟩ := hn
  have hsz := h4.size
  refine ⟨put F m G, fun i hi => ?_, fun i j x hi hj hij hx hy => ?_, fun i x hi hx => ?_, h4.ofNoF g2, fun q hq => ownsRow_keep (h5 q hq) g2 (fun _ _ h => h)⟩
  · by_cases e : i = m
    · subst e; rw [put_same, put_same, put_same]; exact g1
    · rw [put_other _ _ e, put_other _ _ e, put_other _ _ e]; exact (h1 i (by omega)).keep g2 (fun _ _ h => h)
  · by_cases e : i = m
    · subst e
      rw [put_same] at hx
      rw [put_other _ _ (Ne.symm hij)] at hy
      have := (h1 j (by omega)).lt x hy
      have := g3 x hx
      omega
    · rw [put_other _ _ e] at hx
      by_cases e2 : j = m
      · subst e2
        rw [put_same] at hy
        have := (h1 i (by omega)).lt x hx
        have := g3 x hy
        omega
      · rw [put_other _ _ e2] at hy
        exact h2 i j x (by omega) (by omega) hij hx hy
  · by_cases e : i = m
    · subst e; rw [put_same] at hx; have := g3 x hx; omega
    · rw [put_other _ _ e] at hx; exact h3 i x (by omega) hx
/-- What a call leaves of the rows that are no bay's. -/
def Local (w w' : World) : Prop := ∀ (g : Nat) (cs : Array Value) (t : TypeId) (fr : Nat × Nat), w.heap[g]? = some (Obj.cells cs t fr) → t ∉ bayTypes → w'.heap[g]? = some (Obj.cells cs t fr)
theorem Local.noF {w w' : World} (hk : Keep NoF w w') : Local w w' := fun _ _ _ _ h _ => hk.at h (fun h => h)
theorem Local.post {w w' : World} {b : Nat} {B : By} {F : Nat → Prop} (hb : BayAt w b B F) (hk : Keep F w w') : Local w w' := fun _ _ _ _ h ht => hk.at h (hb.apart_of_type h ht)
theorem Local.trans {w w' w'' : World} (h : Local w w') (k : Local w' w'') : Local w w'' := fun g cs t fr hg ht => k g cs t fr (h g cs t fr hg ht) ht
theorem Many.past {W w w' : World} {m : Nat} {p : Nat → Nat} {B : Nat → By} {L : List (Value × List Int)} (h : Many W w m p B L) (hk : Keep (Old w) w w') : Many W w' m p B L := by
  obtain ⟨F, h1, h2, h3, h4, h5⟩ := h
  have hsz := h4.size
  refine ⟨F, fun i hi => (h1 i hi).keep hk (fun x hx e => ?_), h2, h3, h4.trans' (hk.mono fun x hx e => ?_), fun q hq => ownsRow_keep (h5 q hq) hk (fun x hx e => ?_)⟩
  · have := (h1 i hi).lt x hx; have : w.heap.size ≤ x := e; omega
  · have : w.heap.size ≤ x := e; omega
  · obtain ⟨cs, hcs⟩ := own_elem (h5 q hq) hx
    have := lt_of_heap hcs; have : w.heap.size ≤ x := e; omega
/-- A row that is no bay's and none of the bytes' is written. -/
theorem Many.own_cell {W w w' : World} {m : Nat} {p : Nat → Nat} {B : Nat → By} {L : List (Value × List Int)} (h : Many W w m p B L) {g : Nat} {cs : Array Value} {t : TypeId} {fr : Nat × Nat} (hg : w.heap[g]? = some (.cells cs t fr)) (ht : t ∉ bayTypes) (h5 : t ≠ 5) (hW : W.heap.size ≤ g) (hk : Keep (· = g) w w') : Many W w' m p B L := by
  obtain ⟨F, h1, h2, h3, h4, h6⟩ := h
  refine ⟨F, fun i hi => (h1 i hi).keep hk (fun x hx e => (h1 i hi).apart_of_type hg ht (e ▸ hx)), h2, h3, h4.trans' (hk.mono fun x _ e => (show x = g from e) ▸ hW), fun q hq => ownsRow_keep (h6 q hq) hk (fun x hx e => ?_)⟩
  obtain ⟨cs', hcs⟩ := own_elem (h6 q hq) hx
  have e' : x = g := e
  subst e'
  rw [hg] at hcs
  simp at hcs
  exact h5 hcs.2.1
/-- An operation on one of them. -/
theorem Many.step {W w : World} {m : Nat} {p : Nat → Nat} {B : Nat → By} {L : List (Value × List Int)} (h : Many W w m p B L) (i : Nat) (hi : i < m) :
    ∃ F, BayAt w (p i) (B i) F ∧ (∀ x, F x → W.heap.size ≤ x) ∧ ∀ B' w', BayPost w (p i) B' F w' → Many W w' m p (put B i B') L ∧ Local w w' := by
  obtain ⟨F, h1, h2, h3, h4, h5⟩ := h
  refine ⟨F i, h1 i hi, fun x hx => h3 i x hi hx, fun B' w' hp => ?_⟩
  obtain ⟨F', q1, q2, q3⟩ := hp
  have hsz := h4.size
  refine ⟨?_, Local.post (h1 i hi) q2⟩
  refine ⟨put F i F', fun j hj => ?_, fun a c x ha hc hac hx hy => ?_, fun j x hj hx => ?_, h4.trans' (q2.mono fun x _ hx => h3 i x hi hx), fun q hq => (h5 q hq).past (h1 i hi) q2⟩
  · by_cases e : j = i
    · subst e; rw [put_same, put_same]; exact q1
    · rw [put_other _ _ e, put_other _ _ e]; exact (h1 j hj).keep q2 (fun x hx => h2 j i x hj hi e hx)
  · by_cases e : a = i
    · subst e
      rw [put_same] at hx
      rw [put_other _ _ (Ne.symm hac)] at hy
      rcases q3 x hx with hf | hf
      · exact h2 a c x ha hc hac hf hy
      · have := (h1 c hc).lt x hy; omega
    · rw [put_other _ _ e] at hx
      by_cases e2 : c = i
      · subst e2
        rw [put_same] at hy
        rcases q3 x hy with hf | hf
        · exact h2 a c x ha hc hac hx hf
        · have := (h1 a ha).lt x hx; omega
      · rw [put_other _ _ e2] at hy
        exact h2 a c x ha hc hac hx hy
  · by_cases e : j = i
    · subst e
      rw [put_same] at hx
      rcases q3 x hx with hf | hf
      · exact h3 j x hj hf
      · omega
    · rw [put_other _ _ e] at hx; exact h3 j x hj hx

/-- What an operation on the i-th that hands back bytes gives. -/
def ManyRead (W w : World) (m : Nat) (p : Nat → Nat) (B : Nat → By) (L : List (Value × List Int)) (c : Int) (l : List Int) (v : Value) (w' : World) : Prop :=
  ∃ s, v = .tuple #[s, .int .u16 c] ∧ Many W w' m p B ((s, l) :: L) ∧ Local w w'
def ManyCode (W w : World) (m : Nat) (p : Nat → Nat) (B : Nat → By) (L : List (Value × List Int)) (c : Int) (v : Value) (w' : World) : Prop :=
  v = .int .u16 c ∧ Many W w' m p B L ∧ Local w w'
def ManyBool (W w : World) (m : Nat) (p : Nat → Nat) (B : Nat → By) (L : List (Value × List Int)) (c : Bool) (v : Value) (w' : World) : Prop :=
  v = .bool c ∧ Many W w' m p B L ∧ Local w w'
def ManyVal (W w : World) (m : Nat) (p : Nat → Nat) (B : Nat → By) (L : List (Value × List Int)) (u : Value) (v : Value) (w' : World) : Prop :=
  v = u ∧ Many W w' m p B L ∧ Local w w'

section
variable {W w : World} {m : Nat} {p : Nat → Nat} {B : Nat → By} {L : List (Value × List Int)}
theorem By.Small.list {B : By} (hs : B.Small 1000000) : ∀ j d, B.dev j = some d → d.disk.cache.length ≤ 1000000 := fun j e he => by have := hs.cl j e he; omega
theorem Gives.imp {Q R : Value → World → Prop} {f : FuncId} {a : Array Value} {w : World} (h : Calls Try.prog f a w (Gives Q)) (hQ : ∀ v w', Q v w' → R v w') : Calls Try.prog f a w (Gives R) :=
  h.mono fun e w' ⟨v, he, hv⟩ => ⟨v, he, hQ v w' hv⟩
theorem Many.reads {F : Nat → Prop} {i : Nat} {B' : By} {c : Int} {l : List Int} {v : Value} {w' : World} (hst : ∀ B' w', BayPost w (p i) B' F w' → Many W w' m p (put B i B') L ∧ Local w w') (h : ReadsPost w (p i) B' F c l v w') : ManyRead W w m p (put B i B') L c l v w' := by
  obtain ⟨s, rfl, ho, F', h2, h3, h4, _⟩ := h
  exact ⟨s, rfl, (hst B' w' ⟨F', h2, h3, h4⟩).1.mem (ho.mono (Nat.zero_le _)), (hst B' w' ⟨F', h2, h3, h4⟩).2⟩
theorem Many.read (h : Many W w m p B L) (i : Nat) (hi : i < m) (hs : (B i).Small 1000000) (k at_ : Int) :
    Calls Try.prog 47 #[.pointer (some ⟨p i, 0, none⟩), .int .i64 k, .int .i64 at_] w (Gives (ManyRead W w m p (put B i ((B i).op k 3 id)) L ((B i).opcode k (fun D => D.code at_)) ((B i).readB k at_))) := by
  obtain ⟨F, hb, hF, hst⟩ := h.step i hi
  refine Gives.imp (bread_any hb k at_ hs.cr hs.list) fun v w' hg => ?_
  exact Many.reads hst hg
theorem Many.write (h : Many W w m p B L) (i : Nat) (hi : i < m) (hs : (B i).Small 1000000) (k at_ : Int) (v : Value) (xs : List Int) (hv : (v, xs) ∈ L) :
    Calls Try.prog 41 #[.pointer (some ⟨p i, 0, none⟩), .int .i64 k, .int .i64 at_, v] w (Gives (ManyCode W w m p (put B i ((B i).op k 4 (fun D => D.write at_ xs))) L ((B i).opcode k (fun D => D.wcode at_ xs.length)))) := by
  have ho := h.own hv
  obtain ⟨F, hb, hF, hst⟩ := h.step i hi
  refine Gives.imp (bwrite_any hb k at_ v xs ho.bytes (fun _ a n c hva => ?_) hs.cw hs.list) fun v w' hg => ⟨hg.1, hst _ _ hg.2⟩
  subst hva
  obtain ⟨cs, hcs⟩ := own_elem ho (g := a.block) rfl
  exact hb.apart_of_type hcs (by decide)
theorem Many.flush (h : Many W w m p B L) (i : Nat) (hi : i < m) (hs : (B i).Small 1000000) (k : Int) :
    Calls Try.prog 42 #[.pointer (some ⟨p i, 0, none⟩), .int .i64 k] w (Gives (ManyCode W w m p (put B i ((B i).op k 5 Dk.flush)) L ((B i).opcode k Dk.fcode))) := by
  obtain ⟨F, hb, hF, hst⟩ := h.step i hi
  exact Gives.imp (bflush_any hb k hs.cf hs.list) fun v w' hg => ⟨hg.1, hst _ _ hg.2⟩
theorem Many.trip (h : Many W w m p B L) (i : Nat) (hi : i < m) (n : Int) (hn : n ≤ 9223372036854775807) :
    Calls Try.prog 30 #[.pointer (some ⟨p i, 0, none⟩), .int .i64 n] w (Gives (ManyCode W w m p (put B i ((B i).tripped n)) L ((B i).tripc n))) := by
  obtain ⟨F, hb, hF, hst⟩ := h.step i hi
  exact Gives.imp (trip_any hb n hn) fun v w' hg => ⟨hg.1, hst _ _ hg.2⟩
theorem Many.wear (h : Many W w m p B L) (i : Nat) (hi : i < m) (k n : Int) (hn : n ≤ 9223372036854775807) :
    Calls Try.prog 26 #[.pointer (some ⟨p i, 0, none⟩), .int .i64 k, .int .i64 n] w (Gives (ManyCode W w m p (put B i ((B i).wear k n)) L ((B i).wearc k n))) := by
  obtain ⟨F, hb, hF, hst⟩ := h.step i hi
  exact Gives.imp (wear_any hb k n hn) fun v w' hg => ⟨hg.1, hst _ _ hg.2⟩
theorem Many.fail (h : Many W w m p B L) (i : Nat) (hi : i < m) (hs : (B i).Small 1000000) (k : Int) :
    Calls Try.prog 43 #[.pointer (some ⟨p i, 0, none⟩), .int .i64 k] w (Gives (ManyCode W w m p (put B i ((B i).failed k)) L ((B i).tcode k))) := by
  obtain ⟨F, hb, hF, hst⟩ := h.step i hi
  exact Gives.imp (bfail_any hb k hs.list) fun v w' hg => ⟨hg.1, hst _ _ hg.2⟩
theorem Many.has (h : Many W w m p B L) (i : Nat) (hi : i < m) (k : Int) : Calls Try.prog 27 #[.pointer (some ⟨p i, 0, none⟩), .int .i64 k] w fun e w' => e = .returned (.bool ((B i).has k)) ∧ w = w' := by
  obtain ⟨F, hb, hF, hst⟩ := h.step i hi
  exact has_any hb k
theorem Many.counts (h : Many W w m p B L) (i : Nat) (hi : i < m) : Calls Try.prog 29 #[.pointer (some ⟨p i, 0, none⟩)] w (Gives (ManyVal W w m p B L (.agg #[.int .i64 (B i).cr, .int .i64 (B i).cw, .int .i64 (B i).cf]))) := by
  obtain ⟨F, hb, hF, hst⟩ := h.step i hi
  exact Gives.imp (counts_any hb) fun v w' hg => ⟨hg.1, h.quiet hg.2, Local.noF hg.2⟩
theorem Many.same (h : Many W w m p B L) {v1 v2 : Value} {l1 l2 : List Int} (h1 : (v1, l1) ∈ L) (h2 : (v2, l2) ∈ L) : Calls Try.prog 19 #[v1, v2] w (Gives (ManyBool W w m p B L (decide (l1 = l2)))) :=
  Gives.imp (same_any (h.bytes h1) (h.bytes h2)) fun v w' hg => ⟨hg.1, h.quiet hg.2, Local.noF hg.2⟩
theorem Many.plain (h : Many W w m p B L) (i : Nat) (hi : i < m) (hs : (B i).Small 1000000) (d : OpD) (hd : OpAt W d) :
    Calls Try.prog 28 #[.pointer (some ⟨p i, 0, none⟩), .agg (opCells d).toArray] w (Gives (ManyRead W w m p (put B i ((B i).plain d)) L ((B i).plainc d) ((B i).plainl d))) := by
  have hk := h.old
  obtain ⟨F, hb, hF, hst⟩ := h.step i hi
  refine Gives.imp (plain_any hb d (hd.old hk) (fun hne a n c hva hf => ?_) hs) fun v w' hg => Many.reads hst hg
  obtain ⟨a', cap, hv, h1, h2, h3⟩ := hd.b
  obtain ⟨bb, o, ha, hr⟩ := h3 hne
  rw [hva] at hv
  simp at hv
  obtain ⟨x, hx⟩ := List.exists_mem_of_ne_nil _ hne
  obtain ⟨j, hj, rfl⟩ := List.mem_iff_getElem.1 hx
  have hc := hr j (.int .u8 d.bl[j]) (by simp [u8s, hj])
  have hlt := World.block_lt_of_cell? W _ hc
  have hge := hF _ hf
  have : a = ⟨bb, o, none⟩ := by rw [ha] at hv; exact Option.some.inj hv.1
  subst this
  exact absurd hlt (by simpa using hge)
theorem Many.new (h : Many W w m p B L) {v : Value} {l : List Int} (hv : IntsAt w v l) :
    Calls Try.prog 24 #[v] w (Gives fun r w' => (1 ≤ l.length ∧ l.length ≤ 17 ∧ (∀ s ∈ l, sizeOk s) ∧ ∃ b, r = .tuple #[.pointer (some ⟨b, 0, none⟩), .int .u16 0] ∧ Many W w' (m + 1) (put p m b) (put B m (By.fresh l l.length)) L) ∨
      ((¬ (1 ≤ l.length ∧ l.length ≤ 17) ∨ ¬ ∀ s ∈ l, sizeOk s) ∧ r = .tuple #[.pointer none, .int .u16 (if 1 ≤ l.length ∧ l.length ≤ 17 then 40 else 1)] ∧ Many W w' m p B L)) := by
  refine Gives.imp (bnew_any w v l hv) fun r w' hg => ?_
  rcases hg with ⟨h1, h2, h3, b, h4, h5⟩ | ⟨h1, h2, h3⟩
  · exact .inl ⟨h1, h2, h3, b, h4, h.add h5⟩
  · exact .inr ⟨h1, h2, h.quiet h3⟩
end
end Go.Proofs.Ytghnbbpoaeheaaa
