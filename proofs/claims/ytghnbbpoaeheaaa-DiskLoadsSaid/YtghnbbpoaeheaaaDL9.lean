/- plain and total, walked. -/
import Derived.Test.YtghnbbpoaeheaaaDL8
namespace Go.Proofs.Ytghnbbpoaeheaaa
open Go.RowKit

/-- What keeps a bay's counts and caches small. -/
structure By.Small (B : By) (m : Int) : Prop where
  cr : 0 ≤ B.cr ∧ B.cr ≤ m
  cw : 0 ≤ B.cw ∧ B.cw ≤ m
  cf : 0 ≤ B.cf ∧ B.cf ≤ m
  cl : ∀ j d, B.dev j = some d → (d.disk.cache.length : Int) ≤ m

def By.plainc (B : By) (d : OpD) : Int :=
  if d.kind = 1 then B.opcode d.slot (fun D => D.code d.n) else if d.kind = 2 then B.opcode d.slot (fun D => D.wcode d.n d.bl.length) else B.opcode d.slot Dk.fcode
def By.plain (B : By) (d : OpD) : By :=
  if d.kind = 1 then B.op d.slot 3 id else if d.kind = 2 then B.op d.slot 4 (fun D => D.write d.n d.bl) else B.op d.slot 5 Dk.flush
def By.plainl (B : By) (d : OpD) : List Int := if d.kind = 1 then B.readB d.slot d.n else []
/-- What an operation that hands back bytes leaves. -/
def ReadsPost (w : World) (b : Nat) (B' : By) (F : Nat → Prop) (c : Int) (l : List Int) (v : Value) (w' : World) : Prop :=
  ∃ s, v = .tuple #[s, .int .u16 c] ∧ OwnB w' w.heap.size s l ∧
    ∃ F', BayAt w' b B' F' ∧ Keep F w w' ∧ (∀ x, F' x → F x ∨ w.heap.size ≤ x) ∧ ∀ x, s.ownBlock = some x → ¬ F' x
theorem ReadsPost.of_bay {w0 w w' : World} {b : Nat} {B' : By} {F : Nat → Prop} {c : Int} (hk : Keep NoF w0 w) (h : BayPost w b B' F w') : ReadsPost w0 b B' F c [] (.tuple #[.slice none 0 0, .int .u16 c]) w' := by
  obtain ⟨F', h1, h2, h3⟩ := h
  exact ⟨_, rfl, World.ownsRow_nil _ _ _ _, F', h1, (hk.mono fun _ _ h => h.elim).trans' h2, fun x hx => (h3 x hx).imp id (fun h => Nat.le_trans hk.size h), fun x hx => by simp [Value.ownBlock] at hx⟩
theorem ReadsPost.of_read {w0 w w' : World} {b : Nat} {B' : By} {F : Nat → Prop} {c : Int} {l : List Int} {v : Value} (hk : Keep NoF w0 w) (h : ReadsPost w b B' F c l v w') : ReadsPost w0 b B' F c l v w' := by
  obtain ⟨s, h0, h1, F', h2, h3, h4, h5⟩ := h
  exact ⟨s, h0, OwnB.mono h1 hk.size, F', h2, (hk.mono fun _ _ h => h.elim).trans' h3, fun x hx => (h4 x hx).imp id (fun h => Nat.le_trans hk.size h), h5⟩

section
variable {w : World} {b : Nat} {B : By} {F : Nat → Prop}
set_option maxRecDepth 100000 in
set_option maxHeartbeats 1000000 in
theorem plain_any (h : BayAt w b B F) (d : OpD) (hd : OpAt w d) (hdF : d.bl ≠ [] → ∀ a n c, d.bv = .slice (some a) n c → ¬ F a.block) (hs : B.Small 1000000) :
    Calls Try.prog 28 #[.pointer (some ⟨b, 0, none⟩), .agg (opCells d).toArray] w (Gives (ReadsPost w b (B.plain d) F (B.plainc d) (B.plainl d))) := by
  have hcl : ∀ j e, B.dev j = some e → e.disk.cache.length ≤ 1000000 := fun j e he => by have := hs.cl j e he; omega
  have hk : Keep NoF w (w.alloc (.cells (opCells d).toArray 69)) := Keep.alloc _ _ _
  have h2 := h.keep hk (fun _ _ h => h)
  have hb2 := hd.b.keep2 hk (fun _ _ _ _ _ h => h)
  have HR := Lib.hid (bread_any h2 d.slot d.n hs.cr hcl)
  have HW := Lib.hid (bwrite_any h2 d.slot d.n d.bv d.bl hb2 hdF hs.cw hcl)
  have HF := Lib.hid (bflush_any h2 d.slot hs.cf hcl)
  have HK := Lib.hid hk
  obtain ⟨ba, bcap, hbv, -, -, -⟩ := hd.b
  obtain ⟨ka, kcap, hkv, -, -, -⟩ := hd.k
  clear h hdF hs hcl hk h2 hb2
  obtain ⟨hk1, hk2⟩ := hd.kind
  clear hd
  unfold By.plain By.plainc By.plainl
  obtain ⟨kind, slot, n, bv, bl, kv, kl⟩ := d
  simp only [opCells] at *
  subst hbv hkv
  by_cases c1 : kind = 1
  · subst c1
    rw [if_pos rfl, if_pos rfl, if_pos rfl]
    go_enter Try.func28, Try.ntmps28
    go_wp2_with (go_at_call 47; go_must (refine HR.out.mono ?_); rintro e w' ⟨v, rfl, s, rfl, hv⟩; have HV := Lib.hid hv; clear hv)
    go_ret2
    exact ⟨_, rfl, ReadsPost.of_read HK.out ⟨s, rfl, HV.out⟩⟩
  · have b1 : (kind == 1) = false := by simpa using c1
    rw [if_neg c1, if_neg c1, if_neg c1]
    by_cases c2 : kind = 2
    · subst c2
      rw [if_pos rfl, if_pos rfl]
      go_enter Try.func28, Try.ntmps28
      go_wp2_with (go_at_call 41; go_must (refine HW.out.mono ?_); rintro e w' ⟨v, rfl, rfl, hv⟩; have HV := Lib.hid hv; clear hv)
      go_ret2
      exact ⟨_, rfl, ReadsPost.of_bay HK.out HV.out⟩
    · have b2 : (kind == 2) = false := by simpa using c2
      rw [if_neg c2, if_neg c2]
      go_enter Try.func28, Try.ntmps28
      go_wp2_with (go_at_call 42; go_must (refine HF.out.mono ?_); rintro e w' ⟨v, rfl, rfl, hv⟩; have HV := Lib.hid hv; clear hv)
      go_ret2
      exact ⟨_, rfl, ReadsPost.of_bay HK.out HV.out⟩

def By.total (B : By) : Int := B.cr + B.cw + B.cf
set_option maxHeartbeats 400000 in
theorem total_any (h : BayAt w b B F) (hs : B.Small 1000000) : Calls Try.prog 32 #[.pointer (some ⟨b, 0, none⟩)] w (Gives fun v w' => v = .int .i64 B.total ∧ Keep NoF w w') := by
  have HC := Lib.hid (counts_any h)
  obtain ⟨h1, h2⟩ := hs.cr
  obtain ⟨h3, h4⟩ := hs.cw
  obtain ⟨h5, h6⟩ := hs.cf
  unfold By.total
  clear h hs
  generalize B.cr = r at *
  generalize B.cw = s at *
  generalize B.cf = t at *
  go_enter Try.func32, Try.ntmps32
  go_wp2_with (go_at_call 29; go_must (refine HC.out.mono ?_); rintro e w' ⟨v, rfl, rfl, hv⟩; have HV := Lib.hid hv; clear hv)
  go_ret
  exact ⟨_, rfl, rfl, HV.out.trans' (Keep.alloc _ _ _)⟩
end
end Go.Proofs.Ytghnbbpoaeheaaa

/- Some bays beside each other in memory, and bytes that the call holds: what an operation on one of them leaves. -/
namespace Go.Proofs.Ytghnbbpoaeheaaa
open Go.RowKit

def Many (W w : World) (m : Nat) (p : Nat → Nat) (B : Nat → By) (L : List (Value × List Int)) : Prop :=
  ∃ F : Nat → Nat → Prop, (∀ i, i < m → BayAt w (p i) (B i) (F i)) ∧ (∀ i j x, i < m → j < m → i ≠ j → F i x → ¬ F j x) ∧ (∀ i x, i < m → F i x → W.heap.size ≤ x) ∧ Keep (Old W) W w ∧ ∀ q ∈ L, OwnB w 0 q.1 q.2

theorem OwnB.past {w w' : World} {b : Nat} {B : By} {F : Nat → Prop} {v : Value} {l : List Int} (h : OwnB w 0 v l) (hb : BayAt w b B F) (hk : Keep F w w') : OwnB w' 0 v l :=
  ownsRow_keep h hk (fun x hx => by obtain ⟨cs, hcs⟩ := own_elem h hx; exact hb.apart_of_type hcs (by decide))

theorem Many.old {W w : World} {m : Nat} {p : Nat → Nat} {B : Nat → By} {L : List (Value × List Int)} (h : Many W w m p B L) : Keep (Old W) W w := by
  obtain ⟨_, _, _, _, h, _⟩ := h; exact h
theorem Many.own {W w : World} {m : Nat} {p : Nat → Nat} {B : Nat → By} {L : List (Value × List Int)} (h : Many W w m p B L) {v : Value} {l : List Int} (hq : (v, l) ∈ L) : OwnB w 0 v l := by
  obtain ⟨_, _, _, _, _, h⟩ := h; exact h _ hq
theorem Many.bytes {W w : World} {m : Nat} {p : Nat → Nat} {B : Nat → By} {L : List (Value × List Int)} (h : Many W w m p B L) {v : Value} {l : List Int} (hq : (v, l) ∈ L) : BytesAt w v l := (h.own hq).bytes
theorem Many.start0 (W : World) (p : Nat → Nat) (B : Nat → By) : Many W W 0 p B [] := ⟨fun _ _ => False, fun _ h => by omega, fun _ _ _ h => by omega, fun _ _ h => by omega, Keep.refl _ _, fun q hq => by cases hq⟩
theorem Many.less {W w : World} {m : Nat} {p : Nat → Nat} {B : Nat → By} {L L' : List (Value × List Int)} (h : Many W w m p B L) (hL : ∀ q ∈ L', q ∈ L) : Many W w m p B L' := by
  obtain ⟨F, h1, h2, h3, h4, h5⟩ := h; exact ⟨F, h1, h2, h3, h4, fun q hq => h5 q (hL q hq)⟩
theorem Many.quiet {W w w' : World} {m : Nat} {p : Nat → Nat} {B : Nat → By} {L : List (Value × List Int)} (h : Many W w m p B L) (hk : Keep NoF w w') : Many W w' m p B L := by
  obtain ⟨F, h1, h2, h3, h4, h5⟩ := h
  exact ⟨F, fun i hi => (h1 i hi).keep hk (fun _ _ h => h), h2, h3, h4.ofNoF hk, fun q hq => ownsRow_keep (h5 q hq) hk (fun _ _ h => h)⟩
theorem Many.mem {W w : World} {m : Nat} {p : Nat → Nat} {B : Nat → By} {L : List (Value × List Int)} (h : Many W w m p B L) {v : Value} {l : List Int} (ho : OwnB w 0 v l) : Many W w m p B ((v, l) :: L) := by
  obtain ⟨F, h1, h2, h3, h4, h5⟩ := h
  refine ⟨F, h1, h2, h3, h4, fun q hq => ?_⟩
  rcases List.mem_cons.1 hq with rfl | hq
  · exact ho
  · exact h5 q hq
/-- A bay more. -/
theorem Many.add {W w w' : World} {m : Nat} {p : Nat → Nat} {B : Nat → By} {L : List (Value × List Int)} (h : Many W w m p B L) {b : Nat} {B' : By} (hn : NewBay w b B' w') : Many W w' (m + 1) (put p m b) (put B m B') L := by
  obtain ⟨F, h1, h2, h3, h4, h5⟩ := h
  obtain ⟨G, g1, g2, g3⟩ := hn
  have hsz := h4.size
  refine ⟨put F m G, fun i hi => ?_, fun i j x hi hj hij hx hy => ?_, fun i x hi hx => ?_, h4.ofNoF g2, fun q hq => ownsRow_keep (h5 q hq) g2 (fun _ _ h => h)⟩
  · by_cases e : i = m
    · subst e; rw [put_same, put_same, put_same]; exact g1
    · rw [put_other _ _ e, put_other _ _ e, put_other _ _ e]; exact (h1 i (by omega)).keep g2 (fun _ _ h => h)
  · by_cases e : i = m
    · subst e
      rw [put_same] at hx
      rw [put_other _ _ (Ne.symm hij)] at hy
      have := (h1 j (by omega)).lt x hy
      have := g3 x hx
      omega
    · rw [put_other _ _ e] at hx
      by_cases e2 : j = m
      · subst e2
        rw [put_same] at hy
        have := (h1 i (by omega)).lt x hx
        have := g3 x hy
        omega
      · rw [put_other _ _ e2] at hy
        exact h2 i j x (by omega) (by omega) hij hx hy
  · by_cases e : i = m
    · subst e; rw [put_same] at hx; have := g3 x hx; omega
    · rw [put_other _ _ e] at hx; exact h3 i x (by omega) hx
/-- What a call leaves of the rows that are no bay's. -/
def Local (w w' : World) : Prop := ∀ (g : Nat) (cs : Array Value) (t : TypeId) (fr : Nat × Nat), w.heap[g]? = some (Obj.cells cs t fr) → t ∉ bayTypes → w'.heap[g]? = some (Obj.cells cs t fr)
theorem Local.noF {w w' : World} (hk : Keep NoF w w') : Local w w' := fun _ _ _ _ h _ => hk.at h (fun h => h)
theorem Local.post {w w' : World} {b : Nat} {B : By} {F : Nat → Prop} (hb : BayAt w b B F) (hk : Keep F w w') : Local w w' := fun _ _ _ _ h ht => hk.at h (hb.apart_of_type h ht)
theorem Local.trans {w w' w'' : World} (h : Local w w') (k : Local w' w'') : Local w w'' := fun g cs t fr hg ht => k g cs t fr (h g cs t fr hg ht) ht
theorem Many.past {W w w' : World} {m : Nat} {p : Nat → Nat} {B : Nat → By} {L : List (Value × List Int)} (h : Many W w m p B L) (hk : Keep (Old w) w w') : Many W w' m p B L := by
  obtain ⟨F, h1, h2, h3, h4, h5⟩ := h
  have hsz := h4.size
  refine ⟨F, fun i hi => (h1 i hi).keep hk (fun x hx e => ?_), h2, h3, h4.trans' (hk.mono fun x hx e => ?_), fun q hq => ownsRow_keep (h5 q hq) hk (fun x hx e => ?_)⟩
  · have := (h1 i hi).lt x hx; have : w.heap.size ≤ x := e; omega
  · have : w.heap.size ≤ x := e; omega
  · obtain ⟨cs, hcs⟩ := own_elem (h5 q hq) hx
    have := lt_of_heap hcs; have : w.heap.size ≤ x := e; omega
/-- A row that is no bay's and none of the bytes' is written. -/
theorem Many.own_cell {W w w' : World} {m : Nat} {p : Nat → Nat} {B : Nat → By} {L : List (Value × List Int)} (h : Many W w m p B L) {g : Nat} {cs : Array Value} {t : TypeId} {fr : Nat × Nat} (hg : w.heap[g]? = some (.cells cs t fr)) (ht : t ∉ bayTypes) (h5 : t ≠ 5) (hW : W.heap.size ≤ g) (hk : Keep (· = g) w w') : Many W w' m p B L := by
  obtain ⟨F, h1, h2, h3, h4, h6⟩ := h
  refine ⟨F, fun i hi => (h1 i hi).keep hk (fun x hx e => (h1 i hi).apart_of_type hg ht (e ▸ hx)), h2, h3, h4.trans' (hk.mono fun x _ e => (show x = g from e) ▸ hW), fun q hq => ownsRow_keep (h6 q hq) hk (fun x hx e => ?_)⟩
  obtain ⟨cs', hcs⟩ := own_elem (h6 q hq) hx
  have e' : x = g := e
  subst e'
  rw [hg] at hcs
  simp at hcs
  exact h5 hcs.2.1
/-- An operation on one of them. -/
theorem Many.step {W w : World} {m : Nat} {p : Nat → Nat} {B : Nat → By} {L : List (Value × List Int)} (h : Many W w m p B L) (i : Nat) (hi : i < m) :
    ∃ F, BayAt w (p i) (B i) F ∧ (∀ x, F x → W.heap.size ≤ x) ∧ ∀ B' w', BayPost w (p i) B' F w' → Many W w' m p (put B i B') L ∧ Local w w' := by
  obtain ⟨F, h1, h2, h3, h4, h5⟩ := h
  refine ⟨F i, h1 i hi, fun x hx => h3 i x hi hx, fun B' w' hp => ?_⟩
  obtain ⟨F', q1, q2, q3⟩ := hp
  have hsz := h4.size
  refine ⟨?_, Local.post (h1 i hi) q2⟩
  refine ⟨put F i F', fun j hj => ?_, fun a c x ha hc hac hx hy => ?_, fun j x hj hx => ?_, h4.trans' (q2.mono fun x _ hx => h3 i x hi hx), fun q hq => (h5 q hq).past (h1 i hi) q2⟩
  · by_cases e : j = i
    · subst e; rw [put_same, put_same]; exact q1
    · rw [put_other _ _ e, put_other _ _ e]; exact (h1 j hj).keep q2 (fun x hx => h2 j i x hj hi e hx)
  · by_cases e : a = i
    · subst e
      rw [put_same] at hx
      rw [put_other _ _ (Ne.symm hac)] at hy
      rcases q3 x hx with hf | hf
      · exact h2 a c x ha hc hac hf hy
      · have := (h1 c hc).lt x hy; omega
    · rw [put_other _ _ e] at hx
      by_cases e2 : c = i
      · subst e2
        rw [put_same] at hy
        rcases q3 x hy with hf | hf
        · exact h2 a c x ha hc hac hx hf
        · have := (h1 a ha).lt x hx; omega
      · rw [put_other _ _ e2] at hy
        exact h2 a c x ha hc hac hx hy
  · by_cases e : j = i
    · subst e
      rw [put_same] at hx
      rcases q3 x hx with hf | hf
      · exact h3 j x hj hf
      · omega
    · rw [put_other _ _ e] at hx; exact h3 j x hj hx

/-- What an operation on the i-th that hands back bytes gives. -/
def ManyRead (W w : World) (m : Nat) (p : Nat → Nat) (B : Nat → By) (L : List (Value × List Int)) (c : Int) (l : List Int) (v : Value) (w' : World) : Prop :=
  ∃ s, v = .tuple #[s, .int .u16 c] ∧ Many W w' m p B ((s, l) :: L) ∧ Local w w'
def ManyCode (W w : World) (m : Nat) (p : Nat → Nat) (B : Nat → By) (L : List (Value × List Int)) (c : Int) (v : Value) (w' : World) : Prop :=
  v = .int .u16 c ∧ Many W w' m p B L ∧ Local w w'
def ManyBool (W w : World) (m : Nat) (p : Nat → Nat) (B : Nat → By) (L : List (Value × List Int)) (c : Bool) (v : Value) (w' : World) : Prop :=
  v = .bool c ∧ Many W w' m p B L ∧ Local w w'
def ManyVal (W w : World) (m : Nat) (p : Nat → Nat) (B : Nat → By) (L : List (Value × List Int)) (u : Value) (v : Value) (w' : World) : Prop :=
  v = u ∧ Many W w' m p B L ∧ Local w w'

section
variable {W w : World} {m : Nat} {p : Nat → Nat} {B : Nat → By} {L : List (Value × List Int)}
theorem By.Small.list {B : By} (hs : B.Small 1000000) : ∀ j d, B.dev j = some d → d.disk.cache.length ≤ 1000000 := fun j e he => by have := hs.cl j e he; omega
theorem Gives.imp {Q R : Value → World → Prop} {f : FuncId} {a : Array Value} {w : World} (h : Calls Try.prog f a w (Gives Q)) (hQ : ∀ v w', Q v w' → R v w') : Calls Try.prog f a w (Gives R) :=
  h.mono fun e w' ⟨v, he, hv⟩ => ⟨v, he, hQ v w' hv⟩
theorem Many.reads {F : Nat → Prop} {i : Nat} {B' : By} {c : Int} {l : List Int} {v : Value} {w' : World} (hst : ∀ B' w', BayPost w (p i) B' F w' → Many W w' m p (put B i B') L ∧ Local w w') (h : ReadsPost w (p i) B' F c l v w') : ManyRead W w m p (put B i B') L c l v w' := by
  obtain ⟨s, rfl, ho, F', h2, h3, h4, _⟩ := h
  exact ⟨s, rfl, (hst B' w' ⟨F', h2, h3, h4⟩).1.mem (ho.mono (Nat.zero_le _)), (hst B' w' ⟨F', h2, h3, h4⟩).2⟩
theorem Many.read (h : Many W w m p B L) (i : Nat) (hi : i < m) (hs : (B i).Small 1000000) (k at_ : Int) :
    Calls Try.prog 47 #[.pointer (some ⟨p i, 0, none⟩), .int .i64 k, .int .i64 at_] w (Gives (ManyRead W w m p (put B i ((B i).op k 3 id)) L ((B i).opcode k (fun D => D.code at_)) ((B i).readB k at_))) := by
  obtain ⟨F, hb, hF, hst⟩ := h.step i hi
  refine Gives.imp (bread_any hb k at_ hs.cr hs.list) fun v w' hg => ?_
  exact Many.reads hst hg
theorem Many.write (h : Many W w m p B L) (i : Nat) (hi : i < m) (hs : (B i).Small 1000000) (k at_ : Int) (v : Value) (xs : List Int) (hv : (v, xs) ∈ L) :
    Calls Try.prog 41 #[.pointer (some ⟨p i, 0, none⟩), .int .i64 k, .int .i64 at_, v] w (Gives (ManyCode W w m p (put B i ((B i).op k 4 (fun D => D.write at_ xs))) L ((B i).opcode k (fun D => D.wcode at_ xs.length)))) := by
  have ho := h.own hv
  obtain ⟨F, hb, hF, hst⟩ := h.step i hi
  refine Gives.imp (bwrite_any hb k at_ v xs ho.bytes (fun _ a n c hva => ?_) hs.cw hs.list) fun v w' hg => ⟨hg.1, hst _ _ hg.2⟩
  subst hva
  obtain ⟨cs, hcs⟩ := own_elem ho (g := a.block) rfl
  exact hb.apart_of_type hcs (by decide)
theorem Many.flush (h : Many W w m p B L) (i : Nat) (hi : i < m) (hs : (B i).Small 1000000) (k : Int) :
    Calls Try.prog 42 #[.pointer (some ⟨p i, 0, none⟩), .int .i64 k] w (Gives (ManyCode W w m p (put B i ((B i).op k 5 Dk.flush)) L ((B i).opcode k Dk.fcode))) := by
  obtain ⟨F, hb, hF, hst⟩ := h.step i hi
  exact Gives.imp (bflush_any hb k hs.cf hs.list) fun v w' hg => ⟨hg.1, hst _ _ hg.2⟩
theorem Many.trip (h : Many W w m p B L) (i : Nat) (hi : i < m) (n : Int) (hn : n ≤ 9223372036854775807) :
    Calls Try.prog 30 #[.pointer (some ⟨p i, 0, none⟩), .int .i64 n] w (Gives (ManyCode W w m p (put B i ((B i).tripped n)) L ((B i).tripc n))) := by
  obtain ⟨F, hb, hF, hst⟩ := h.step i hi
  exact Gives.imp (trip_any hb n hn) fun v w' hg => ⟨hg.1, hst _ _ hg.2⟩
theorem Many.wear (h : Many W w m p B L) (i : Nat) (hi : i < m) (k n : Int) (hn : n ≤ 9223372036854775807) :
    Calls Try.prog 26 #[.pointer (some ⟨p i, 0, none⟩), .int .i64 k, .int .i64 n] w (Gives (ManyCode W w m p (put B i ((B i).wear k n)) L ((B i).wearc k n))) := by
  obtain ⟨F, hb, hF, hst⟩ := h.step i hi
  exact Gives.imp (wear_any hb k n hn) fun v w' hg => ⟨hg.1, hst _ _ hg.2⟩
theorem Many.fail (h : Many W w m p B L) (i : Nat) (hi : i < m) (hs : (B i).Small 1000000) (k : Int) :
    Calls Try.prog 43 #[.pointer (some ⟨p i, 0, none⟩), .int .i64 k] w (Gives (ManyCode W w m p (put B i ((B i).failed k)) L ((B i).tcode k))) := by
  obtain ⟨F, hb, hF, hst⟩ := h.step i hi
  exact Gives.imp (bfail_any hb k hs.list) fun v w' hg => ⟨hg.1, hst _ _ hg.2⟩
theorem Many.has (h : Many W w m p B L) (i : Nat) (hi : i < m) (k : Int) : Calls Try.prog 27 #[.pointer (some ⟨p i, 0, none⟩), .int .i64 k] w fun e w' => e = .returned (.bool ((B i).has k)) ∧ w = w' := by
  obtain ⟨F, hb, hF, hst⟩ := h.step i hi
  exact has_any hb k
theorem Many.counts (h : Many W w m p B L) (i : Nat) (hi : i < m) : Calls Try.prog 29 #[.pointer (some ⟨p i, 0, none⟩)] w (Gives (ManyVal W w m p B L (.agg #[.int .i64 (B i).cr, .int .i64 (B i).cw, .int .i64 (B i).cf]))) := by
  obtain ⟨F, hb, hF, hst⟩ := h.step i hi
  exact Gives.imp (counts_any hb) fun v w' hg => ⟨hg.1, h.quiet hg.2, Local.noF hg.2⟩
theorem Many.same (h : Many W w m p B L) {v1 v2 : Value} {l1 l2 : List Int} (h1 : (v1, l1) ∈ L) (h2 : (v2, l2) ∈ L) : Calls Try.prog 19 #[v1, v2] w (Gives (ManyBool W w m p B L (decide (l1 = l2)))) :=
  Gives.imp (same_any (h.bytes h1) (h.bytes h2)) fun v w' hg => ⟨hg.1, h.quiet hg.2, Local.noF hg.2⟩
theorem Many.plain (h : Many W w m p B L) (i : Nat) (hi : i < m) (hs : (B i).Small 1000000) (d : OpD) (hd : OpAt W d) :
    Calls Try.prog 28 #[.pointer (some ⟨p i, 0, none⟩), .agg (opCells d).toArray] w (Gives (ManyRead W w m p (put B i ((B i).plain d)) L ((B i).plainc d) ((B i).plainl d))) := by
  have hk := h.old
  obtain ⟨F, hb, hF, hst⟩ := h.step i hi
  refine Gives.imp (plain_any hb d (hd.old hk) (fun hne a n c hva hf => ?_) hs) fun v w' hg => Many.reads hst hg
  obtain ⟨a', cap, hv, h1, h2, h3⟩ := hd.b
  obtain ⟨bb, o, ha, hr⟩ := h3 hne
  rw [hva] at hv
  simp at hv
  obtain ⟨x, hx⟩ := List.exists_mem_of_ne_nil _ hne
  obtain ⟨j, hj, rfl⟩ := List.mem_iff_getElem.1 hx
  have hc := hr j (.int .u8 d.bl[j]) (by simp [u8s, hj])
  have hlt := World.block_lt_of_cell? W _ hc
  have hge := hF _ hf
  have : a = ⟨bb, o, none⟩ := by rw [ha] at hv; exact Option.some.inj hv.1
  subst this
  exact absurd hlt (by simpa using hge)
theorem Many.new (h : Many W w m p B L) {v : Value} {l : List Int} (hv : IntsAt w v l) :
    Calls Try.prog 24 #[v] w (Gives fun r w' => (1 ≤ l.length ∧ l.length ≤ 17 ∧ (∀ s ∈ l, sizeOk s) ∧ ∃ b, r = .tuple #[.pointer (some ⟨b, 0, none⟩), .int .u16 0] ∧ Many W w' (m + 1) (put p m b) (put B m (By.fresh l l.length)) L) ∨
      ((¬ (1 ≤ l.length ∧ l.length ≤ 17) ∨ ¬ ∀ s ∈ l, sizeOk s) ∧ r = .tuple #[.pointer none, .int .u16 (if 1 ≤ l.length ∧ l.length ≤ 17 then 40 else 1)] ∧ Many W w' m p B L)) := by
  refine Gives.imp (bnew_any w v l hv) fun r w' hg => ?_
  rcases hg with ⟨h1, h2, h3, b, h4, h5⟩ | ⟨h1, h2, h3⟩
  · exact .inl ⟨h1, h2, h3, b, h4, h.add h5⟩
  · exact .inr ⟨h1, h2, h.quiet h3⟩
end
end Go.Proofs.Ytghnbbpoaeheaaa

/- What the bay's plain operations do, as plain data. -/
namespace Go.Proofs.Ytghnbbpoaeheaaa

def opi (d : OpD) : Nat := if d.kind = 1 then 3 else if d.kind = 2 then 4 else 5
def opg (d : OpD) : Dk → Dk := if d.kind = 1 then id else if d.kind = 2 then (fun D => D.write d.n d.bl) else Dk.flush
def opc (d : OpD) : Dk → Int := if d.kind = 1 then (fun D => D.code d.n) else if d.kind = 2 then (fun D => D.wcode d.n d.bl.length) else Dk.fcode
def opl (d : OpD) : Dk → List Int := if d.kind = 1 then (fun D => D.read d.n) else fun _ => []
theorem plain_op (B : By) (d : OpD) : B.plain d = B.op d.slot (opi d) (opg d) := by
  unfold By.plain opi opg; split
  · rfl
  · split <;> rfl
theorem plain_code (B : By) (d : OpD) : B.plainc d = B.opcode d.slot (opc d) := by
  unfold By.plainc opc; split
  · rfl
  · split <;> rfl
theorem plain_list (B : By) (d : OpD) : B.plainl d = match B.reach d.slot with | none => [] | some e => opl d e.disk := by
  unfold By.plainl opl
  split
  · rfl
  · cases B.reach d.slot <;> rfl

theorem Dk.write_failed (D : Dk) (a : Int) (b : List Int) : (D.write a b).failed = D.failed := by unfold Dk.write; split <;> rfl
theorem Dk.flush_failed (D : Dk) : D.flush.failed = D.failed := by unfold Dk.flush; split <;> rfl
theorem opg_failed (d : OpD) (D : Dk) : (opg d D).failed = D.failed := by
  unfold opg; split
  · rfl
  · split
    · exact D.write_failed _ _
    · exact D.flush_failed
theorem opc_failed (d : OpD) {D : Dk} (h : D.failed = true) : opc d D = 2 := by
  unfold opc; split
  · simp [Dk.code, h]
  · split
    · simp [Dk.wcode, Dk.code, h]
    · simp [Dk.fcode, h]
theorem opl_failed (d : OpD) {D : Dk} (h : D.failed = true) : opl d D = [] := by
  unfold opl; split
  · simp [Dk.read, Dk.code, h]
  · rfl
theorem opg_cache (d : OpD) (D : Dk) : (opg d D).cache.length ≤ D.cache.length + 1 := by
  unfold opg; split
  · simp
  · split
    · show (D.write d.n d.bl).cache.length ≤ _
      unfold Dk.write; split <;> simp
    · unfold Dk.flush; split
      · simp
      · simp [Dk.settle]
theorem use_cache (d : Dev) : d.use.disk.cache.length ≤ d.disk.cache.length := by
  unfold Dev.use; split
  · split
    · simp [Dk.fail]
    · simp
  · simp

theorem opi_or (d : OpD) : opi d = 3 ∨ opi d = 4 ∨ opi d = 5 := by unfold opi; split; exact .inl rfl; split; exact .inr (.inl rfl); exact .inr (.inr rfl)
theorem By.Small.mono {B : By} {m m' : Int} (h : B.Small m) (hm : m ≤ m') : B.Small m' :=
  ⟨⟨h.cr.1, by have := h.cr.2; omega⟩, ⟨h.cw.1, by have := h.cw.2; omega⟩, ⟨h.cf.1, by have := h.cf.2; omega⟩, fun j d hd => by have := h.cl j d hd; omega⟩
theorem Small.tick {B : By} {m : Int} (h : B.Small m) (ci : Nat) : (B.tick ci).Small (m + 1) := by
  obtain ⟨h1, h2, h3, h4⟩ := h
  refine ⟨?_, ?_, ?_, fun j d hd => by have := h4 j d hd; omega⟩ <;> (simp only [By.tick]; split <;> omega)
theorem Small.setDev {B : By} {m : Int} (h : B.Small m) {i : Nat} {x : Option Dev} (hx : ∀ d, x = some d → (d.disk.cache.length : Int) ≤ m) : (B.setDev i x).Small m := by
  obtain ⟨h1, h2, h3, h4⟩ := h
  refine ⟨h1, h2, h3, fun j d hd => ?_⟩
  by_cases hj : j = i
  · subst hj; simp [By.setDev] at hd; exact hx d hd
  · simp only [By.setDev, put_other _ _ hj] at hd; exact h4 j d hd
theorem Small.start {B : By} {m : Int} (h : B.Small m) : B.start.Small m := by
  unfold By.start; split
  · exact ⟨h.cr, h.cw, h.cf, h.cl⟩
  · exact h
theorem Small.op {B : By} {m : Int} (h : B.Small m) (k : Int) (ci : Nat) (g : Dk → Dk) (hg : ∀ D, (g D).cache.length ≤ D.cache.length + 1) : (B.op k ci g).Small (m + 1) := by
  unfold By.op
  split
  · split
    · exact (Small.start h).mono (by omega)
    · split
      · exact Small.tick h ci
      · rename_i hk _ d hd
        refine Small.setDev (Small.tick h ci) fun e he => ?_
        obtain rfl := (Option.some.inj he).symm
        have h1 := hg d.use.disk
        have h2 := use_cache d
        have h3 : B.dev (k.toNat * 3) = some d := by have := hd; simp [By.in, hk] at this; exact this.2
        have h4 := h.cl _ d h3
        simp only
        omega
  · exact h.mono (by omega)
theorem Small.plain {B : By} {m : Int} (h : B.Small m) (d : OpD) : (B.plain d).Small (m + 1) := by
  rw [plain_op]; exact Small.op h _ _ _ (opg_cache d)

/-- A bay without a trip, with its light on: an operation on a disk in a slot. -/
structure By.Calm (B : By) : Prop where
  trip : B.trip = -1
  dark : B.dark = false
theorem By.Calm.start {B : By} (h : B.Calm) : B.start = B := by unfold By.start; rw [if_neg (by rw [h.trip]; decide)]
theorem calm_op {B : By} (h : B.Calm) {k : Int} (hk : B.is k) {e : Dev} (he : B.dev (k.toNat * 3) = some e) (ci : Nat) (g : Dk → Dk) :
    B.op k ci g = (B.tick ci).setDev (k.toNat * 3) (some { e.use with disk := g e.use.disk }) := by
  have h1 : B.in k = some e := by simpa [By.in, hk] using he
  unfold By.op
  rw [if_pos hk, h.start, h.dark, h1]
  rfl
theorem calm_code {B : By} (h : B.Calm) {k : Int} (hk : B.is k) {e : Dev} (he : B.dev (k.toNat * 3) = some e) (c : Dk → Int) : B.opcode k c = c e.use.disk := by
  have h1 : B.in k = some e := by simpa [By.in, hk] using he
  unfold By.opcode
  rw [if_pos hk, h.start, h.dark, h1]
  rfl
theorem calm_reach {B : By} (h : B.Calm) {k : Int} (hk : B.is k) {e : Dev} (he : B.dev (k.toNat * 3) = some e) : B.reach k = some e.use := by
  have h1 : B.in k = some e := by simpa [By.in, hk] using he
  unfold By.reach
  rw [if_pos hk, h.start, h.dark, h1]
  rfl

/-- Two bays of two slots, the second with a disk that wears: c operations have come to the first slot. -/
structure Wearing (n c : Int) (A B : By) : Prop where
  nA : A.n = 2
  nB : B.n = 2
  cA : A.Calm
  cB : B.Calm
  cnt : A.cr = B.cr ∧ A.cw = B.cw ∧ A.cf = B.cf
  d0 : ∃ D, A.dev 0 = some ⟨D, false, 0⟩ ∧ D.failed = false ∧ ((c ≤ n ∧ B.dev 0 = some ⟨D, true, n - c⟩) ∨ (n < c ∧ ∃ E l, B.dev 0 = some ⟨E, false, l⟩ ∧ E.failed = true))
  d1 : ∃ D, A.dev 3 = some ⟨D, false, 0⟩ ∧ B.dev 3 = some ⟨D, false, 0⟩ ∧ D.failed = false

theorem is_two {B : By} (hn : B.n = 2) {k : Int} (hk : k = 0 ∨ k = 1) : B.is k := by unfold By.is; rw [hn]; omega
theorem tick_cnt {A B : By} (h : A.cr = B.cr ∧ A.cw = B.cw ∧ A.cf = B.cf) (ci : Nat) : (A.tick ci).cr = (B.tick ci).cr ∧ (A.tick ci).cw = (B.tick ci).cw ∧ (A.tick ci).cf = (B.tick ci).cf := by
  obtain ⟨h1, h2, h3⟩ := h
  simp only [By.tick, h1, h2, h3, and_self]
theorem Calm.tick {B : By} (h : B.Calm) (ci : Nat) (i : Nat) (x : Option Dev) : ((B.tick ci).setDev i x).Calm := ⟨by simp [By.setDev, By.tick, h.trip], by simp [By.setDev, By.tick, h.dark]⟩

theorem wearing_one {n c : Int} {A B : By} (h : Wearing n c A B) (d : OpD) (hs : d.slot = 1) :
    Wearing n c (A.plain d) (B.plain d) ∧ A.plainc d = B.plainc d ∧ A.plainl d = B.plainl d := by
  obtain ⟨D, hA, hB, hf⟩ := h.d1
  have kA := is_two h.nA (.inr hs)
  have kB := is_two h.nB (.inr hs)
  have e3 : d.slot.toNat * 3 = 3 := by rw [hs]; rfl
  have hA' : A.dev (d.slot.toNat * 3) = some ⟨D, false, 0⟩ := by rw [e3]; exact hA
  have hB' : B.dev (d.slot.toNat * 3) = some ⟨D, false, 0⟩ := by rw [e3]; exact hB
  rw [plain_op, plain_op, plain_code, plain_code, plain_list, plain_list, calm_op h.cA kA hA', calm_op h.cB kB hB', calm_code h.cA kA hA', calm_code h.cB kB hB', calm_reach h.cA kA hA', calm_reach h.cB kB hB', e3]
  refine ⟨⟨h.nA, h.nB, Calm.tick h.cA _ _ _, Calm.tick h.cB _ _ _, tick_cnt h.cnt _, ?_, ?_⟩, rfl, rfl⟩
  · obtain ⟨D0, h1, h2, h3⟩ := h.d0
    refine ⟨D0, ?_, h2, ?_⟩
    · simpa [By.setDev, By.tick, put] using h1
    · rcases h3 with ⟨h3, h4⟩ | ⟨h3, E, l, h4, h5⟩
      · exact .inl ⟨h3, by simpa [By.setDev, By.tick, put] using h4⟩
      · exact .inr ⟨h3, E, l, by simpa [By.setDev, By.tick, put] using h4, h5⟩
  · exact ⟨opg d D, by simp [By.setDev, Dev.use], by simp [By.setDev, Dev.use], by rw [opg_failed]; exact hf⟩

theorem wearing_zero {n c : Int} {A B : By} (h : Wearing n c A B) (d : OpD) (hs : d.slot = 0) :
    Wearing n (c + 1) (A.plain d) (B.plain d) ∧ (n < c + 1 → B.plainc d = 2 ∧ B.plainl d = [] ∧ (B.plain d).has 0 = false) ∧
      (c + 1 ≤ n → A.plainc d = B.plainc d ∧ A.plainl d = B.plainl d ∧ (B.plain d).has 0 = true) := by
  obtain ⟨D, hA, hf, hB⟩ := h.d0
  have kA := is_two h.nA (.inl hs)
  have kB := is_two h.nB (.inl hs)
  have e3 : d.slot.toNat * 3 = 0 := by rw [hs]; rfl
  have hA' : A.dev (d.slot.toNat * 3) = some ⟨D, false, 0⟩ := by rw [e3]; exact hA
  have mk : ∀ (e : Dev) (c' : Int), B.dev 0 = some e → (c' ≤ n ∧ ({ e.use with disk := opg d e.use.disk } : Dev) = ⟨opg d D, true, n - c'⟩ ∨ n < c' ∧ ∃ E l, ({ e.use with disk := opg d e.use.disk } : Dev) = ⟨E, false, l⟩ ∧ E.failed = true) →
      Wearing n c' (A.plain d) (B.plain d) ∧ B.plainc d = opc d e.use.disk ∧ A.plainc d = opc d D ∧ B.plainl d = opl d e.use.disk ∧ A.plainl d = opl d D ∧ (B.plain d).has 0 = !(opg d e.use.disk).failed := fun e c' he hc => by
    have hB' : B.dev (d.slot.toNat * 3) = some e := by rw [e3]; exact he
    rw [plain_op, plain_op, plain_code, plain_code, plain_list, plain_list, calm_op h.cA kA hA', calm_op h.cB kB hB', calm_code h.cA kA hA', calm_code h.cB kB hB', calm_reach h.cA kA hA', calm_reach h.cB kB hB', e3]
    refine ⟨⟨h.nA, h.nB, Calm.tick h.cA _ _ _, Calm.tick h.cB _ _ _, tick_cnt h.cnt _, ⟨opg d D, by simp [By.setDev, Dev.use], by rw [opg_failed]; exact hf, ?_⟩, ?_⟩, rfl, rfl, rfl, rfl, ?_⟩
    · rcases hc with ⟨h3, h4⟩ | ⟨h3, E, l, h4, h5⟩
      · exact .inl ⟨h3, by simp only [By.setDev, put_same]; rw [h4]⟩
      · exact .inr ⟨h3, E, l, by simp only [By.setDev, put_same]; rw [h4], h5⟩
    · obtain ⟨D1, g1, g2, g3⟩ := h.d1
      exact ⟨D1, by simpa [By.setDev, By.tick, put] using g1, by simpa [By.setDev, By.tick, put] using g2, g3⟩
    · have hz : ((B.tick (opi d)).setDev 0 (some { e.use with disk := opg d e.use.disk })).is 0 := is_two (show _ = 2 from h.nB) (.inl rfl)
      unfold By.has By.in
      rw [if_pos hz]
      simp [By.setDev]
  rcases hB with ⟨hc, hB⟩ | ⟨hc, E, l, hB, hE⟩
  · by_cases hcn : c = n
    · have hu : (⟨D, true, n - c⟩ : Dev).use = ⟨D.fail, false, n - c⟩ := by simp [Dev.use, hcn]
      obtain ⟨m1, m2, m3, m4, m5, m6⟩ := mk _ (c + 1) hB (.inr ⟨by omega, _, _, by rw [hu], by rw [opg_failed]; rfl⟩)
      refine ⟨m1, fun _ => ⟨?_, ?_, ?_⟩, fun hx => by omega⟩
      · rw [m2, hu]; exact opc_failed d rfl
      · rw [m4, hu]; exact opl_failed d rfl
      · rw [m6, hu, opg_failed]; rfl
    · have hu : (⟨D, true, n - c⟩ : Dev).use = ⟨D, true, n - (c + 1)⟩ := by
        have : ¬ n - c = 0 := by omega
        simp only [Dev.use, if_true, this, if_false]
        congr 1; omega
      obtain ⟨m1, m2, m3, m4, m5, m6⟩ := mk _ (c + 1) hB (.inl ⟨by omega, by rw [hu]⟩)
      refine ⟨m1, fun hx => by omega, fun _ => ⟨?_, ?_, ?_⟩⟩
      · rw [m2, m3, hu]
      · rw [m4, m5, hu]
      · rw [m6, hu, opg_failed, hf]; rfl
  · have hu : (⟨E, false, l⟩ : Dev).use = ⟨E, false, l⟩ := by simp [Dev.use]
    obtain ⟨m1, m2, m3, m4, m5, m6⟩ := mk _ (c + 1) hB (.inr ⟨by omega, _, _, by rw [hu], by rw [opg_failed]; exact hE⟩)
    refine ⟨m1, fun _ => ⟨?_, ?_, ?_⟩, fun hx => by omega⟩
    · rw [m2, hu]; exact opc_failed d hE
    · rw [m4, hu]; exact opl_failed d hE
    · rw [m6, hu, opg_failed, hE]; rfl
theorem Wearing.has1 {n c : Int} {A B : By} (h : Wearing n c A B) : B.has 1 = true := by
  obtain ⟨D, _, hB, hf⟩ := h.d1
  unfold By.has By.in
  rw [if_pos (is_two h.nB (.inr rfl)), show (1 : Int).toNat * 3 = 3 from rfl, hB]
  simp [hf]
end Go.Proofs.Ytghnbbpoaeheaaa

/- known, walked: at a bay of its own the operations answer as the code asks. -/
namespace Go.Proofs.Ytghnbbpoaeheaaa
open Go.RowKit

theorem wpList_make22f {ops : Array Oper} {rest : List Oper} {o : Oper} {a : Act} {Q : Exit → Act → World → Prop} {w : World} (hg : o.guard = none) (l c : Operand) (hop : o.op = Op.makeSlice 22 l c)
    (C : Int) (n : Nat) (hl : a.eval l = .int .i64 C) (hc : a.eval c = .int .i64 C) (hC : C = (n : Int)) (b2 : n ≤ 8192)
    (hK : ∀ w', w'.heap[w.heap.size]? = some (.cells (u8s (List.replicate n 0)).toArray 5 (0, 0)) → w.grownBy w' none → wpList Try.prog ops Q rest (a.put o.dst (.slice (some ⟨w.heap.size, 0, none⟩) n n)) w') : wpList Try.prog ops Q (o :: rest) a w := by
  obtain ⟨i, hi, he⟩ := info_of i5
  simp only [Prod.mk.injEq] at he
  obtain ⟨he1, he2, he3⟩ := he
  refine wpList_make_full w hg l c 22 hop w.heap.size 5 i _ 1 Try.underlying22 hi he1 he2 .i64 .i64 C C n hl hc hC hC (by rw [he3]; omega) (by unfold maxLen; omega) (Nat.le_refl _) ?_
  intro w' h1 h2
  refine hK w' ?_ h2
  rcases h1.2 with ⟨h, _⟩ | ⟨g, cap, cur, hv, hg', hh, hc', hm, hs, ht⟩
  · cases h
  obtain ⟨rfl, rfl⟩ : g = w.heap.size ∧ cap = n := by simp at hv; exact ⟨hv.1.symm, hv.2.symm⟩
  rw [hh]
  have e : (madeCells (Value.int .u8 0).cells (cap * 1)).toList = u8s (List.replicate cap 0) := by
    unfold madeCells
    rw [Array.toList_map, Array.toList_range, Nat.mul_one, u8s, List.map_replicate]
    apply List.ext_getElem
    · simp
    · intro j h1 h2
      simp only [List.getElem_map, List.getElem_replicate]
      simp [Value.cells, Nat.mod_one]
  rw [← e, ← ht, ← hs, List.take_of_length_le (by simp)]

def xs9 : List Int := (List.replicate 128 0).set 5 9
theorem ownB_row {w : World} {g : Nat} {l : List Int} (h : w.heap[g]? = some (.cells (u8s l).toArray 5 (0, 0))) (hl : l.length ≤ maxLen) : OwnB w 0 (.slice (some ⟨g, 0, none⟩) l.length l.length) l :=
  ⟨by simp, .inr ⟨g, l.length, (u8s l).toArray, rfl, Nat.zero_le _, h, Nat.le_refl _, hl, by simp, by simp [List.take_of_length_le]⟩⟩

def pOne (b : Nat) : Nat → Nat := fun _ => b
def B0 : By := By.fresh [2, 0] 2
def B1 : By := B0.op 0 4 (fun D => D.write 1 xs9)
def B2 : By := B1.op 0 5 Dk.flush
def B3 : By := B2.op 1 3 id
def B4 : By := B3.tripped 1
def B5 : By := B4.op 0 3 id
def B6 : By := B5.op 0 3 id
theorem b0 : B0.Small 5 := by
  refine ⟨by decide, by decide, by decide, fun j d hd => ?_⟩
  unfold B0 By.fresh at hd
  simp only at hd
  split at hd
  · unfold freshDev at hd
    split at hd
    · cases hd
    · obtain rfl := Option.some.inj hd; simp [Dk.new]
  · cases hd
theorem write_cache (D : Dk) (a : Int) (b : List Int) : (D.write a b).cache.length ≤ D.cache.length + 1 := by unfold Dk.write; split <;> simp
theorem b1 : B1.Small 6 := Small.op b0 _ _ _ (fun D => write_cache D _ _)
theorem b2 : B2.Small 7 := Small.op b1 _ _ _ (fun D => by unfold Dk.flush; split; · simp
                                                          · simp [Dk.settle])
theorem b3 : B3.Small 8 := Small.op b2 _ _ _ (fun D => by simp)
theorem Small.tripped {B : By} {m : Int} (h : B.Small m) (n : Int) : (B.tripped n).Small m := by
  unfold By.tripped
  split
  · exact h
  · split
    · exact h
    · exact ⟨h.cr, h.cw, h.cf, h.cl⟩
theorem Small.of_in {B : By} {m : Int} (h : B.Small m) {k : Int} {d : Dev} (hd : B.in k = some d) : (d.disk.cache.length : Int) ≤ m := by
  unfold By.in at hd
  split at hd
  · exact h.cl _ d hd
  · cases hd
theorem Small.wear {B : By} {m : Int} (h : B.Small m) (k n : Int) : (B.wear k n).Small m := by
  unfold By.wear
  split
  · exact h
  · split
    · exact h
    · rename_i d hd
      exact Small.setDev h fun e he => by obtain rfl := (Option.some.inj he).symm; have := Small.of_in h hd; exact this
theorem Small.failed {B : By} {m : Int} (h : B.Small m) (hm : 0 ≤ m) (k : Int) : (B.failed k).Small m := by
  unfold By.failed
  split
  · exact h
  · exact Small.setDev h fun e he => by obtain rfl := (Option.some.inj he).symm; simpa [Dk.fail] using hm
theorem b4 : B4.Small 8 := Small.tripped b3 1
theorem b5 : B5.Small 9 := Small.op b4 _ _ _ (fun D => by simp)
theorem k1 : B0.opcode 0 (fun D => D.wcode 1 xs9.length) = 0 := by kernel_rfl
theorem k2 : B1.opcode 0 Dk.fcode = 0 := by decide +kernel
theorem k3 : B2.opcode 1 (fun D => D.code 0) = 51 := by decide +kernel
theorem k4 : B3.tripc 1 = 0 := by decide +kernel
theorem k5 : B4.opcode 0 (fun D => D.code 1) = 0 := by decide +kernel
theorem k5l : B4.readB 0 1 = xs9 := by decide +kernel
theorem k6 : B5.opcode 0 (fun D => D.code 1) = 50 := by decide +kernel
theorem k7 : B6.cr = 2 ∧ B6.cw = 1 ∧ B6.cf = 1 := by decide +kernel

theorem pairAt {w : World} {g : Nat} {x y : Int} (h : w.heap[g]? = some (.cells #[.int .i64 x, .int .i64 y] 3 (0, 0))) : IntsAt w (.slice (some ⟨g, 0, none⟩) 2 2) [x, y] :=
  ⟨_, _, rfl, by simp [maxLen], fun _ => ⟨g, 0, rfl, range_at h 0 _ rfl⟩⟩

/-- A row of bytes of the call's own, new. -/
theorem Many.fresh {W w w2 w3 : World} {m : Nat} {p : Nat → Nat} {B : Nat → By} {L : List (Value × List Int)} (h : Many W w m p B L) (hk : Keep NoF w w2) (hk2 : Keep (· = w.heap.size) w2 w3) {v : Value} {l : List Int} (ho : OwnB w3 0 v l) : Many W w3 m p B ((v, l) :: L) := by
  refine Many.mem ?_ ho
  have h' := h.quiet hk
  have hsz := hk.size
  obtain ⟨F, h1, h2, h3, h4, h5⟩ := h
  obtain ⟨_, _, _, _, k4, _⟩ := h'
  have hWs := h4.size
  refine ⟨F, fun i hi => ((h1 i hi).keep hk (fun _ _ h => h)).keep hk2 (fun x hx e => ?_), h2, h3, k4.trans' (hk2.mono fun x _ e => ?_), fun q hq => ?_⟩
  · have := (h1 i hi).lt x hx; have : x = w.heap.size := e; omega
  · have : x = w.heap.size := e; show W.heap.size ≤ x; omega
  · have h5q := ownsRow_keep (h5 q hq) hk (fun _ _ h => h)
    refine ownsRow_keep h5q hk2 (fun x hx e => ?_)
    obtain ⟨cs, hcs⟩ := own_elem (h5 q hq) hx
    have := lt_of_heap hcs
    have : x = w.heap.size := e
    omega
theorem Many.one {W w' : World} {b : Nat} {B : Nat → By} {B' : By} {L : List (Value × List Int)} (h : Many W w' 1 (fun _ => b) (put B 0 B') L) : Many W w' 1 (fun _ => b) (fun _ => B') L := by
  obtain ⟨F, h1, h2, h3, h4, h5⟩ := h
  refine ⟨F, fun i hi => ?_, h2, h3, h4, h5⟩
  have := h1 i hi
  obtain rfl : i = 0 := by omega
  exact this

def Know (w : World) (B : By) (b : Nat) (L : List (Value × List Int)) (w' : World) : Prop := Many w w' 1 (fun _ => b) (fun _ => B) L
section
variable {w w' : World} {b : Nat} {L : List (Value × List Int)}
theorem Know.write {s : Value} (h : Know w B0 b [(s, xs9)] w') : Calls Try.prog 41 #[.pointer (some ⟨b, 0, none⟩), .int .i64 0, .int .i64 1, s] w' (Gives fun v w' => v = .int .u16 0 ∧ Know w B1 b [(s, xs9)] w') :=
  Gives.imp (Many.write h 0 (by omega) (b0.mono (by omega)) 0 1 s xs9 (List.mem_singleton.2 rfl)) fun v w' hg => ⟨hg.1.trans (by rw [show B0.opcode 0 (fun D => D.wcode 1 xs9.length) = 0 from k1]), hg.2.1.one⟩
theorem Know.flush (h : Know w B1 b L w') : Calls Try.prog 42 #[.pointer (some ⟨b, 0, none⟩), .int .i64 0] w' (Gives fun v w' => v = .int .u16 0 ∧ Know w B2 b L w') :=
  Gives.imp (Many.flush h 0 (by omega) (b1.mono (by omega)) 0) fun v w' hg => ⟨hg.1.trans (by rw [show B1.opcode 0 Dk.fcode = 0 from k2]), hg.2.1.one⟩
theorem Know.read1 (h : Know w B2 b L w') : Calls Try.prog 47 #[.pointer (some ⟨b, 0, none⟩), .int .i64 1, .int .i64 0] w' (Gives fun v w' => ∃ s, v = .tuple #[s, .int .u16 51] ∧ Know w B3 b L w') :=
  Gives.imp (Many.read h 0 (by omega) (b2.mono (by omega)) 1 0) fun v w' hg => by
    obtain ⟨s, h1, h2, _⟩ := hg
    exact ⟨s, h1.trans (by rw [show B2.opcode 1 (fun D => D.code 0) = 51 from k3]), (h2.less fun q hq => List.mem_cons_of_mem _ hq).one⟩
theorem Know.trip (h : Know w B3 b L w') : Calls Try.prog 30 #[.pointer (some ⟨b, 0, none⟩), .int .i64 1] w' (Gives fun v w' => v = .int .u16 0 ∧ Know w B4 b L w') :=
  Gives.imp (Many.trip h 0 (by omega) 1 (by omega)) fun v w' hg => ⟨hg.1.trans (by rw [show B3.tripc 1 = 0 from k4]), hg.2.1.one⟩
theorem Know.read2 (h : Know w B4 b L w') : Calls Try.prog 47 #[.pointer (some ⟨b, 0, none⟩), .int .i64 0, .int .i64 1] w' (Gives fun v w' => ∃ s, v = .tuple #[s, .int .u16 0] ∧ Know w B5 b ((s, xs9) :: L) w') :=
  Gives.imp (Many.read h 0 (by omega) (b4.mono (by omega)) 0 1) fun v w' hg => by
    obtain ⟨s, h1, h2, _⟩ := hg
    rw [show B4.readB 0 1 = xs9 from k5l] at h2
    exact ⟨s, h1.trans (by rw [show B4.opcode 0 (fun D => D.code 1) = 0 from k5]), h2.one⟩
theorem Know.read3 (h : Know w B5 b L w') : Calls Try.prog 47 #[.pointer (some ⟨b, 0, none⟩), .int .i64 0, .int .i64 1] w' (Gives fun v w' => ∃ s, v = .tuple #[s, .int .u16 50] ∧ Know w B6 b L w') :=
  Gives.imp (Many.read h 0 (by omega) (b5.mono (by omega)) 0 1) fun v w' hg => by
    obtain ⟨s, h1, h2, _⟩ := hg
    exact ⟨s, h1.trans (by rw [show B5.opcode 0 (fun D => D.code 1) = 50 from k6]), (h2.less fun q hq => List.mem_cons_of_mem _ hq).one⟩
theorem Know.same {s t : Value} (h : Know w B6 b L w') (hs : (s, xs9) ∈ L) (ht : (t, xs9) ∈ L) : Calls Try.prog 19 #[s, t] w' (Gives fun v w' => v = .bool true ∧ Know w B6 b L w') :=
  Gives.imp (Many.same h hs ht) fun v w' hg => ⟨hg.1.trans (by simp), hg.2.1⟩
theorem Know.counts (h : Know w B6 b L w') : Calls Try.prog 29 #[.pointer (some ⟨b, 0, none⟩)] w' (Gives fun v w' => v = .agg #[.int .i64 2, .int .i64 1, .int .i64 1] ∧ Know w B6 b L w') :=
  Gives.imp (Many.counts h 0 (by omega)) fun v w' hg => ⟨hg.1.trans (by obtain ⟨h1, h2, h3⟩ := k7; simp only [h1, h2, h3]), hg.2.1⟩
end

theorem known_new (w : World) : Calls Try.prog 24 #[.slice (some ⟨w.heap.size, 0, none⟩) 2 2] (w.alloc (.cells #[.int .i64 2, .int .i64 0] 3)) (Gives fun r w' => ∃ b, r = .tuple #[.pointer (some ⟨b, 0, none⟩), .int .u16 0] ∧ Know w B0 b [] w') := by
  have hg0 : Many w (w.alloc (.cells #[.int .i64 2, .int .i64 0] 3)) 0 (fun _ => 0) (fun _ => B0) [] := (Many.start0 w _ _).quiet (Keep.alloc _ _ _)
  refine Gives.imp (hg0.new (pairAt (x := 2) (y := 0) (heap_alloc_new w _))) fun v w' hg => ?_
  rcases hg with ⟨_, _, _, b, h1, h2⟩ | ⟨h1, _, _⟩
  · refine ⟨b, h1, ?_⟩
    obtain ⟨F, h1, h2, h3, h4, h5⟩ := h2
    refine ⟨F, fun i hi => ?_, h2, h3, h4, h5⟩
    have := h1 i hi
    obtain rfl : i = 0 := by omega
    exact this
  · simp [sizeOk] at h1
theorem know_x {w w1 w2 : World} {b : Nat} (h : Know w B0 b [] w1) (ho : w2.heap[w1.heap.size]? = some (.cells (u8s (List.replicate 128 0)).toArray 5 (0, 0))) (hg : w1.grownBy w2 none) :
    Know w B0 b [(.slice (some ⟨w1.heap.size, 0, none⟩) 128 128, xs9)] (w2.setCell ⟨w1.heap.size, 5, none⟩ (.int .u8 9)) := by
  refine Many.fresh h (Keep.grown hg (fun _ h => by cases h)) (Keep.setCell (F := (· = w1.heap.size)) w2 ⟨w1.heap.size, 5, none⟩ (.int .u8 9) rfl) ?_
  have := heap_setCell_same w2 w1.heap.size 5 _ _ (.int .u8 9) ho
  have e : (u8s (List.replicate 128 0)).toArray.setIfInBounds 5 (.int .u8 9) = (u8s xs9).toArray := by
    simp [u8s, xs9, List.map_set]
  rw [e] at this
  exact ownB_row (l := xs9) this (by simp [xs9, maxLen])

set_option maxRecDepth 100000 in
set_option maxHeartbeats 1000000 in
theorem known_any (w : World) : Calls Try.prog 25 #[] w (Gives fun v w' => v = .bool true ∧ Keep (Old w) w w') := by
  have HN := Lib.hid (known_new w)
  go_enter Try.func25, Try.ntmps25
  go_wp2_with (first | (go_at_call 24; go_must (refine HN.out.mono ?_); rintro e w1 ⟨v, rfl, b, rfl, hv⟩; have H0 := Lib.hid hv; clear hv) | (at_make; go_must (refine wpList_make22f rfl _ _ rfl _ 128 rfl rfl (by rfl) (by omega) ?_); intro w2 ho hg; have H1 := Lib.hid (know_x H0.out ho hg); have c5 : w2.cell? ⟨w1.heap.size, 5, none⟩ = some (.int .u8 0) := cell_at ho 5 rfl; have f5 := free_at ho 5; clear ho hg) | (go_at_call 41; go_must (refine (Know.write H1.out).mono ?_); rintro e w3 ⟨v, rfl, rfl, hv⟩; have H2 := Lib.hid hv; clear hv) | (go_at_call 42; go_must (refine (Know.flush H2.out).mono ?_); rintro e w4 ⟨v, rfl, rfl, hv⟩; have H3 := Lib.hid hv; clear hv) | (go_at_call 30; go_must (refine (Know.trip H4.out).mono ?_); rintro e w6 ⟨v, rfl, rfl, hv⟩; have H5 := Lib.hid hv; clear hv) | (go_at_call 47; refine (Know.read3 H6.out).mono ?_; rintro e w8 ⟨v, rfl, s3, rfl, hv⟩; have H7 := Lib.hid hv; clear hv) | (go_at_call 47; refine (Know.read2 H5.out).mono ?_; rintro e w7 ⟨v, rfl, s2, rfl, hv⟩; have H6 := Lib.hid hv; clear hv) | (go_at_call 47; refine (Know.read1 H3.out).mono ?_; rintro e w5 ⟨v, rfl, s1, rfl, hv⟩; have H4 := Lib.hid hv; clear hv) | (go_at_call 19; go_must (refine (Know.same H7.out (by simp) (by simp)).mono ?_); rintro e w9 ⟨v, rfl, rfl, hv⟩; have H8 := Lib.hid hv; clear hv) | (go_at_call 29; go_must (refine (Know.counts H8.out).mono ?_); rintro e w10 ⟨v, rfl, rfl, hv⟩; have H9 := Lib.hid hv; clear hv))
  go_ret
  exact ⟨_, rfl, rfl, Many.old H9.out⟩
end Go.Proofs.Ytghnbbpoaeheaaa
