/- plain and total, walked. -/
import Derived.Test.YtghnbbpoaeheaaaBay9
namespace Go.Proofs.Ytghnbbpoaeheaaa
open Go.RowKit

/-- What keeps a bay's counts and caches small. -/
structure By.Small (B : By) (m : Int) : Prop where
  cr : 0 ≤ B.cr ∧ B.cr ≤ m
  cw : 0 ≤ B.cw ∧ B.cw ≤ m
  cf : 0 ≤ B.cf ∧ B.cf ≤ m
  cl : ∀ j d, B.dev j = some d → (d.disk.cache.length : Int) ≤ m

def By.plainc (B : By) (d : OpD) : Int :=
  if d.kind = 1 then B.opcode d.slot (fun D => D.code d.n) else if d.kind = 2 then B.opcode d.slot (fun D => D.wcode d.n d.bl.length) else B.opcode d.slot Dk.fcode
def By.plain (B : By) (d : OpD) : By :=
  if d.kind = 1 then B.op d.slot 3 id else if d.kind = 2 then B.op d.slot 4 (fun D => D.write d.n d.bl) else B.op d.slot 5 Dk.flush
def By.plainl (B : By) (d : OpD) : List Int := if d.kind = 1 then B.readB d.slot d.n else []
/-- What an operation that hands back bytes leaves. -/
def ReadsPost (w : World) (b : Nat) (B' : By) (F : Nat → Prop) (c : Int) (l : List Int) (v : Value) (w' : World) : Prop :=
  ∃ s, v = .tuple #[s, .int .u16 c] ∧ OwnB w' w.heap.size s l ∧
    ∃ F', BayAt w' b B' F' ∧ Keep F w w' ∧ (∀ x, F' x → F x ∨ w.heap.size ≤ x) ∧ ∀ x, s.ownBlock = some x → ¬ F' x
theorem ReadsPost.of_bay {w0 w w' : World} {b : Nat} {B' : By} {F : Nat → Prop} {c : Int} (hk : Keep NoF w0 w) (h : BayPost w b B' F w') : ReadsPost w0 b B' F c [] (.tuple #[.slice none 0 0, .int .u16 c]) w' := by
  obtain ⟨F', h1, h2, h3⟩ := h
  exact ⟨_, rfl, World.ownsRow_nil _ _ _ _, F', h1, (hk.mono fun _ _ h => h.elim).trans' h2, fun x hx => (h3 x hx).imp id (fun h => Nat.le_trans hk.size h), fun x hx => by simp [Value.ownBlock] at hx⟩
theorem ReadsPost.of_read {w0 w w' : World} {b : Nat} {B' : By} {F : Nat → Prop} {c : Int} {l : List Int} {v : Value} (hk : Keep NoF w0 w) (h : ReadsPost w b B' F c l v w') : ReadsPost w0 b B' F c l v w' := by
  obtain ⟨s, h0, h1, F', h2, h3, h4, h5⟩ := h
  exact ⟨s, h0, OwnB.mono h1 hk.size, F', h2, (hk.mono fun _ _ h => h.elim).trans' h3, fun x hx => (h4 x hx).imp id (fun h => Nat.le_trans hk.size h), h5⟩

section
variable {w : World} {b : Nat} {B : By} {F : Nat → Prop}
set_option maxRecDepth 100000 in
set_option maxHeartbeats 1000000 in
theorem plain_any (h : BayAt w b B F) (d : OpD) (hd : OpAt w d) (hdF : d.bl ≠ [] → ∀ a n c, d.bv = .slice (some a) n c → ¬ F a.block) (hs : B.Small 1000000) :
    Calls Try.prog 28 #[.pointer (some ⟨b, 0, none⟩), .agg (opCells d).toArray] w (Gives (ReadsPost w b (B.plain d) F (B.plainc d) (B.plainl d))) := by
  have hcl : ∀ j e, B.dev j = some e → e.disk.cache.length ≤ 1000000 := fun j e he => by have := hs.cl j e he; omega
  have hk : Keep NoF w (w.alloc (.cells (opCells d).toArray 69)) := Keep.alloc _ _ _
  have h2 := h.keep hk (fun _ _ h => h)
  have hb2 := hd.b.keep2 hk (fun _ _ _ _ _ h => h)
  have HR := Lib.hid (bread_any h2 d.slot d.n hs.cr hcl)
  have HW := Lib.hid (bwrite_any h2 d.slot d.n d.bv d.bl hb2 hdF hs.cw hcl)
  have HF := Lib.hid (bflush_any h2 d.slot hs.cf hcl)
  have HK := Lib.hid hk
  obtain ⟨ba, bcap, hbv, -, -, -⟩ := hd.b
  obtain ⟨ka, kcap, hkv, -, -, -⟩ := hd.k
  clear h hdF hs hcl hk h2 hb2
  obtain ⟨hk1, hk2⟩ := hd.kind
  clear hd
  unfold By.plain By.plainc By.plainl
  obtain ⟨kind, slot, n, bv, bl, kv, kl⟩ := d
  simp only [opCells] at *
  subst hbv hkv
  by_cases c1 : kind = 1
  · subst c1
    rw [if_pos rfl, if_pos rfl, if_pos rfl]
    go_enter Try.func28, Try.ntmps28
    go_wp2_with (go_at_call 47; go_must (refine HR.out.mono ?_); rintro e w' ⟨v, rfl, s, rfl, hv⟩; have HV := Lib.hid hv; clear hv)
    go_ret2
    exact ⟨_, rfl, ReadsPost.of_read HK.out ⟨s, rfl, HV.out⟩⟩
  · have b1 : (kind == 1) = false := by simpa using c1
    rw [if_neg c1, if_neg c1, if_neg c1]
    by_cases c2 : kind = 2
    · subst c2
      rw [if_pos rfl, if_pos rfl]
      go_enter Try.func28, Try.ntmps28
      go_wp2_with (go_at_call 41; go_must (refine HW.out.mono ?_); rintro e w' ⟨v, rfl, rfl, hv⟩; have HV := Lib.hid hv; clear hv)
      go_ret2
      exact ⟨_, rfl, ReadsPost.of_bay HK.out HV.out⟩
    · have b2 : (kind == 2) = false := by simpa using c2
      rw [if_neg c2, if_neg c2]
      go_enter Try.func28, Try.ntmps28
      go_wp2_with (go_at_call 42; go_must (refine HF.out.mono ?_); rintro e w' ⟨v, rfl, rfl, hv⟩; have HV := Lib.hid hv; clear hv)
      go_ret2
      exact ⟨_, rfl, ReadsPost.of_bay HK.out HV.out⟩

def By.total (B : By) : Int := B.cr + B.cw + B.cf
set_option maxHeartbeats 400000 in
theorem total_any (h : BayAt w b B F) (hs : B.Small 1000000) : Calls Try.prog 32 #[.pointer (some ⟨b, 0, none⟩)] w (Gives fun v w' => v = .int .i64 B.total ∧ Keep NoF w w') := by
  have HC := Lib.hid (counts_any h)
  obtain ⟨h1, h2⟩ := hs.cr
  obtain ⟨h3, h4⟩ := hs.cw
  obtain ⟨h5, h6⟩ := hs.cf
  unfold By.total
  clear h hs
  generalize B.cr = r at *
  generalize B.cw = s at *
  generalize B.cf = t at *
  go_enter Try.func32, Try.ntmps32
  go_wp2_with (go_at_call 29; go_must (refine HC.out.mono ?_); rintro e w' ⟨v, rfl, rfl, hv⟩; have HV := Lib.hid hv; clear hv)
  go_ret
  exact ⟨_, rfl, rfl, HV.out.trans' (Keep.alloc _ _ _)⟩
end
end Go.Proofs.Ytghnbbpoaeheaaa
