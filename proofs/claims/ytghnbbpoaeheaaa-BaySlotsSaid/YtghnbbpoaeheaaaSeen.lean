/- The map of a disk (sector to number of its last write): looked up, written, cleared. -/
import Derived.Test.YtghnbbpoaeheaaaDk
namespace Go.Proofs.Ytghnbbpoaeheaaa
open Go.RowKit

abbrev kv (e : MapEntry) : Value × Value := (e.key, e.val)
abbrev kvOf (p : Nat × Nat) : Value × Value := (.int .i64 p.1, .int .i64 p.2)

theorem findNow_none (i : Nat) : ∀ (l : List (Nat × Nat)) (es : List MapEntry) (j : Nat), es.map kv = l.map kvOf → l.find? (fun p => p.1 == i) = none →
    Instr.findNow (.int .i64) (.int .i64 i) es j = some none
  | [], [], _, _, _ => rfl
  | [], e :: es, _, h, _ => by simp at h
  | p :: l, [], _, h, _ => by simp at h
  | p :: l, e :: es, j, h, hn => by
    simp only [List.map_cons, List.cons.injEq, Prod.mk.injEq] at h
    obtain ⟨⟨h1, h2⟩, h3⟩ := h
    rw [List.find?_cons] at hn
    split at hn
    · cases hn
    · rename_i hp
      have hne : ((i : Int) == (p.1 : Int)) = false := by
        have : p.1 ≠ i := by simpa using hp
        rw [beq_eq_false_iff_ne]; omega
      simp only [Instr.findNow, h1, Instr.sameNow, ↓reduceIte, hne]
      exact findNow_none i l es (j + 1) h3 hn
theorem findNow_some (i : Nat) (q : Nat × Nat) : ∀ (l : List (Nat × Nat)) (es : List MapEntry) (j : Nat), es.map kv = l.map kvOf → l.find? (fun p => p.1 == i) = some q →
    ∃ l1 l2, l = l1 ++ q :: l2 ∧ q.1 = i ∧ (∀ p ∈ l1, p.1 ≠ i) ∧ Instr.findNow (.int .i64) (.int .i64 i) es j = some (some (j + l1.length, .int .i64 q.2))
  | [], _, _, _, hf => by simp at hf
  | p :: l, [], _, h, _ => by simp at h
  | p :: l, e :: es, j, h, hf => by
    simp only [List.map_cons, List.cons.injEq, Prod.mk.injEq] at h
    obtain ⟨⟨h1, h2⟩, h3⟩ := h
    rw [List.find?_cons] at hf
    split at hf
    · rename_i hp
      obtain rfl : p = q := by simpa using hf
      have hp' : p.1 = i := by simpa using hp
      refine ⟨[], l, rfl, hp', by simp, ?_⟩
      have he : ((i : Int) == (p.1 : Int)) = true := by rw [hp']; simp
      simp only [Instr.findNow, h1, Instr.sameNow, ↓reduceIte, he, h2]
      rfl
    · rename_i hp
      have hp' : p.1 ≠ i := by simpa using hp
      obtain ⟨l1, l2, rfl, hq, hl1, hrun⟩ := findNow_some i q l es (j + 1) h3 hf
      refine ⟨p :: l1, l2, rfl, hq, fun x hx => ?_, ?_⟩
      · rcases List.mem_cons.1 hx with rfl | hx
        · exact hp'
        · exact hl1 x hx
      · have he : ((i : Int) == (p.1 : Int)) = false := by rw [beq_eq_false_iff_ne]; omega
        simp only [Instr.findNow, h1, Instr.sameNow, ↓reduceIte, he, hrun, List.length_cons]
        rw [show j + 1 + l1.length = j + (l1.length + 1) by omega]

theorem run_getObj (w : World) (b : Nat) (es : Array MapEntry) (ck : Nat) (h : w.heap[b]? = some (.map es ck)) : (getObj b).run Try.prog w = .ok (.map es ck) w := by
  simp [getObj, Sem.run, h]
theorem under98 (w : World) : (underlying 98).run Try.prog w = .ok (.map 3 3) w := by kernel_rfl
theorem under3 (w : World) : (underlying 3).run Try.prog w = .ok (.int .i64) w := by kernel_rfl
theorem zero3 (w : World) : (zeroValue 3).run Try.prog w = .ok (.int .i64 0) w := by kernel_rfl

theorem check3 (e : Bool) (i : Int) (w : World) : (Instr.checkKey e 10000 3 (.int .i64 i)).run Try.prog w = .ok () w := by kernel_rfl

/-- 'k, is := seen[at]'. -/
theorem run_lookup_seen (w : World) (b i : Nat) (es : Array MapEntry) (ck : Nat) (h : w.heap[b]? = some (.map es ck)) (l : List (Nat × Nat)) (hl : es.toList.map kv = l.map kvOf) :
    (Instr.lookup 98 (.map (some b)) (.int .i64 i) true).run Try.prog w = .ok (match l.find? (fun p => p.1 == i) with
      | some p => .tuple #[.int .i64 p.2, .bool true]
      | none => .tuple #[.int .i64 0, .bool false]) w := by
  unfold Instr.lookup
  simp only [Sem.run_bind, under98, Result.andThen_ok, run_getObj w b es ck h, Sem.run_pure, check3, under3, Instr.findKey]
  cases hf : l.find? (fun p => p.1 == i) with
  | none =>
    rw [findNow_none i l es.toList 0 hl hf]
    simp [zero3]
  | some p =>
    obtain ⟨l1, l2, _, _, _, hrun⟩ := findNow_some i p l es.toList 0 hl hf
    rw [hrun]
    simp

/-- 'seen[at] = v'. -/
theorem run_update_seen (w : World) (b i v : Nat) (es : Array MapEntry) (ck : Nat) (h : w.heap[b]? = some (.map es ck)) (l : List (Nat × Nat)) (hl : es.toList.map kv = l.map kvOf) :
    ∃ (es' : Array MapEntry) (ck' : Nat) (l' : List (Nat × Nat)), (Instr.mapUpdate 98 (.map (some b)) (.int .i64 i) (.int .i64 v)).run Try.prog w = .ok () { w with heap := w.heap.setIfInBounds b (.map es' ck') } ∧
      es'.toList.map kv = l'.map kvOf ∧ (∀ k, l'.find? (fun p => p.1 == k) = if i = k then some (i, v) else l.find? (fun p => p.1 == k)) := by
  unfold Instr.mapUpdate
  simp only [Sem.run_bind, under98, Result.andThen_ok, run_getObj w b es ck h, Sem.run_pure, check3, under3, Instr.findKey]
  cases hf : l.find? (fun p => p.1 == i) with
  | none =>
    rw [findNow_none i l es.toList 0 hl hf]
    refine ⟨es.push { key := .int .i64 i, val := .int .i64 v, born := ck }, ck + 1, l ++ [(i, v)], ?_, ?_, ?_⟩
    · simp [setObj, Sem.run, h]
    · simp [hl]
    · intro k
      rw [List.find?_append]
      by_cases hk : i = k
      · subst hk; rw [if_pos rfl, hf]; simp
      · rw [if_neg hk]
        have : (i == k) = false := by simpa using hk
        simp [this]
  | some q =>
    obtain ⟨l1, l2, rfl, hq, hl1, hrun⟩ := findNow_some i q l es.toList 0 hl hf
    rw [Nat.zero_add] at hrun
    rw [hrun]
    have hlen : es.toList.length = (l1 ++ q :: l2).length := by simpa using congrArg List.length hl
    have hlt : l1.length < es.size := by simp at hlen; omega
    have hkey : es[l1.length].key = .int .i64 i := by
      have := congrArg (fun l => l[l1.length]?) hl
      simp only [List.getElem?_map, List.getElem?_append_right (Nat.le_refl l1.length), Nat.sub_self, List.getElem?_cons_zero, Option.map_some, Array.getElem?_toList, Array.getElem?_eq_getElem hlt, Option.some.injEq, Prod.mk.injEq] at this
      rw [this.1, hq]
    refine ⟨es.modify l1.length fun e => { e with key := .int .i64 i, val := .int .i64 v }, ck, l1 ++ (i, v) :: l2, ?_, ?_, ?_⟩
    · have hsame : (Instr.keyThatStays (((es[l1.length]?).map (·.key)).getD (.int .i64 i)) (.int .i64 i)).run Try.prog w = .ok (.int .i64 i) w := by
        rw [Array.getElem?_eq_getElem hlt, Option.map_some, Option.getD_some, hkey]
        simp [Instr.keyThatStays, Instr.sameBits]
      simp [hsame, setObj, Sem.run, h]
    · apply List.ext_getElem?
      intro k
      have hk := congrArg (fun l => l[k]?) hl
      simp only [List.getElem?_map, Array.getElem?_toList, Array.getElem?_modify] at hk ⊢
      by_cases e : l1.length = k
      · subst e
        simp [hlt]
      · rw [if_neg e, hk]
        congr 1
        rw [List.getElem?_append, List.getElem?_append]
        split
        · rfl
        · rw [show k - l1.length = (k - l1.length - 1) + 1 by omega, List.getElem?_cons_succ, List.getElem?_cons_succ]
    · intro k
      have hno : ∀ k', k' = i → l1.find? (fun p => p.1 == k') = none := by
        intro k' e; subst e
        rw [List.find?_eq_none]; intro x hx; simpa using hl1 x hx
      rw [List.find?_append, List.find?_append]
      by_cases hk : i = k
      · rw [if_pos hk, hno k hk.symm]
        simp [hk]
      · rw [if_neg hk, List.find?_cons, List.find?_cons]
        have h1 : ((i, v).1 == k) = false := by simpa using hk
        have h2 : (q.1 == k) = false := by rw [hq]; simpa using hk
        rw [h1, h2]

theorem SeenOk.nil : SeenOk #[] [] := ⟨[], rfl, fun i => by simp [cached_nil]⟩
theorem SeenOk.update {es es' : Array MapEntry} {c : List (Nat × List Int)} {l l' : List (Nat × Nat)} {i : Nat} {d : List Int}
    (hl : ∀ k : Nat, match l.find? (fun p => p.1 == k) with
      | some p => ∃ d, c[p.2]? = some (k, d) ∧ cached c k = some d
      | none => cached c k = none) (hl' : es'.toList.map kv = l'.map kvOf)
    (hf : ∀ k, l'.find? (fun p => p.1 == k) = if i = k then some (i, c.length) else l.find? (fun p => p.1 == k)) : SeenOk es' (c ++ [(i, d)]) := by
  refine ⟨l', hl', fun k => ?_⟩
  rw [hf k]
  by_cases hk : i = k
  · subst hk
    rw [if_pos rfl]
    exact ⟨d, by simp, by rw [cached_snoc, if_pos rfl]⟩
  · rw [if_neg hk]
    have hc := hl k
    cases hp : l.find? (fun p => p.1 == k) with
    | some p =>
      rw [hp] at hc
      obtain ⟨d', h1, h2⟩ := hc
      have hlt := (List.getElem?_eq_some_iff.1 h1).1
      exact ⟨d', by rw [List.getElem?_append_left hlt]; exact h1, by rw [cached_snoc, if_neg hk]; exact h2⟩
    | none =>
      rw [hp] at hc
      show cached (c ++ [(i, d)]) k = none
      rw [cached_snoc, if_neg hk]; exact hc
/-- 'clear(seen)'. -/
theorem run_clear_seen (w : World) (b : Nat) (es : Array MapEntry) (ck : Nat) (ty : TypeId) (h : w.heap[b]? = some (.map es ck)) :
    (Builtin.clear_ #[98] ty #[.map (some b)]).run Try.prog w = .ok (.tuple #[]) { w with heap := w.heap.setIfInBounds b (.map #[] ck) } := by
  unfold Builtin.clear_
  simp [Sem.run_bind, Result.andThen_ok, getObj, setObj, Sem.run, h]
end Go.Proofs.Ytghnbbpoaeheaaa
