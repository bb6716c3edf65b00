/- Keys in order: what putting and removing does to a rising list. -/
import Derived.Test.YtnijdnnnhkdjaaaTabF
import Derived.Test.YtnijdnnnhkdjaaaTabD
namespace Go.Proofs.Ytnijdnnnhkdjaaa
set_option linter.unusedSimpArgs false
set_option linter.unusedVariables false
open Go Go.RowKit Go.MapKept

theorem posOf_lt {l : List V} (h : Rising l) (key : ByteArray) (a : Nat) (x : V) (hx : l[a]? = some x) : a < posOf l key ↔ Op.bytesLess x.2.1.toList key.toList = true := by
  rw [posOf_spec h.2 key a x hx]
  unfold cmpE
  rw [cmp_lt, ByteArray.toList_eq, ByteArray.toList_eq]
theorem hasKey_iff {l : List V} (key : ByteArray) : hasKey l key = true ↔ ∃ x, l[posOf l key]? = some x ∧ x.2.1 = key := by
  have inj : ∀ a b : ByteArray, a.data.toList = b.data.toList → a = b := fun a b h => ByteArray.ext (Array.toList_inj.1 h)
  unfold hasKey hasAt
  cases hx : l[posOf l key]? with
  | none => simp
  | some x =>
    simp only [beq_iff_eq, Option.some.injEq]
    unfold cmpE
    rw [cmp_eq]
    constructor
    · intro h; exact ⟨x, rfl, inj _ _ h⟩
    · rintro ⟨y, rfl, rfl⟩; rfl
theorem less_total (a b : List UInt8) : Op.bytesLess a b = true ∨ a = b ∨ Op.bytesLess b a = true := by
  rw [← cmp_lt, ← cmp_lt, ← cmp_eq]
  induction a generalizing b with
  | nil => cases b <;> simp [Lib.compareBytes]
  | cons x r ih =>
    cases b with
    | nil => simp [Lib.compareBytes]
    | cons y s =>
      simp only [Lib.compareBytes]
      by_cases h1 : x < y
      · simp [h1]
      · by_cases h2 : y < x
        · simp [h1, h2]
        · simp only [if_neg h1, if_neg h2]; exact ih s
/-- A key that is not there stands behind all below the place, and ahead of all from the place on. -/
theorem above_of_not {l : List V} (h : Rising l) (key : ByteArray) (hk : hasKey l key = false) (a : Nat) (x : V) (hx : l[a]? = some x) (ha : posOf l key ≤ a) : Op.bytesLess key.toList x.2.1.toList = true := by
  have hn : ¬ Op.bytesLess x.2.1.toList key.toList = true := fun e => by have := (posOf_lt h key a x hx).2 e; omega
  rcases less_total key.toList x.2.1.toList with h1 | h1 | h1
  · exact h1
  · exfalso
    have hal := (List.getElem?_eq_some_iff.1 hx).1
    have hkx : key = x.2.1 := by
      rw [ByteArray.toList_eq, ByteArray.toList_eq] at h1
      exact ByteArray.ext (Array.toList_inj.1 h1)
    have hy := List.getElem?_eq_getElem (show posOf l key < l.length by omega)
    by_cases e : posOf l key = a
    · have : hasKey l key = true := (hasKey_iff key).2 ⟨x, by rw [e]; exact hx, hkx.symm⟩
      rw [hk] at this; cases this
    · have h2 := (List.pairwise_iff_getElem.1 h.2) (posOf l key) a (by omega) hal (by omega)
      have e2 : l[a] = x := by rw [List.getElem?_eq_getElem hal] at hx; simpa using hx
      rw [e2, ← hkx] at h2
      have := (posOf_lt h key (posOf l key) _ hy).2 h2
      omega
  · exact absurd h1 hn
theorem rising_ins {l : List V} (h : Rising l) (key value : ByteArray) (hk : hasKey l key = false) : Rising (insAt l (posOf l key) (true, key, value)) := by
  refine ⟨?_, ?_⟩
  · intro x hx
    simp only [insAt, List.mem_append, List.mem_cons] at hx
    rcases hx with hx | rfl | hx
    · exact h.1 x (List.mem_of_mem_take hx)
    · rfl
    · exact h.1 x (List.mem_of_mem_drop hx)
  · unfold insAt
    rw [List.pairwise_append]
    refine ⟨h.2.sublist (List.take_sublist _ _), ?_, ?_⟩
    · rw [List.pairwise_cons]
      refine ⟨?_, h.2.sublist (List.drop_sublist _ _)⟩
      intro x hx
      obtain ⟨i, hi, rfl⟩ := List.getElem_of_mem hx
      rw [List.getElem_drop]
      have hl : posOf l key + i < l.length := by simp at hi; omega
      exact above_of_not h key hk (posOf l key + i) _ (List.getElem?_eq_getElem hl) (by omega)
    · intro x hx y hy
      obtain ⟨i, hi, rfl⟩ := List.getElem_of_mem hx
      rw [List.getElem_take]
      have hi2 : i < posOf l key ∧ i < l.length := by simp at hi; omega
      have h1 := (posOf_lt h key i _ (List.getElem?_eq_getElem hi2.2)).1 hi2.1
      rw [List.mem_cons] at hy
      rcases hy with rfl | hy
      · exact h1
      · obtain ⟨j, hj, rfl⟩ := List.getElem_of_mem hy
        rw [List.getElem_drop]
        have hl : posOf l key + j < l.length := by simp at hj; omega
        exact less_trans _ _ _ h1 (above_of_not h key hk (posOf l key + j) _ (List.getElem?_eq_getElem hl) (by omega))
theorem rising_erase {l : List V} (h : Rising l) (i : Nat) : Rising (l.eraseIdx i) :=
  ⟨fun x hx => h.1 x (List.mem_of_mem_eraseIdx hx), h.2.sublist (List.eraseIdx_sublist _ _)⟩
theorem rising_set {l : List V} (h : Rising l) (i : Nat) (x : V) (hx : l[i]? = some x) (value : ByteArray) : Rising (l.set i (x.1, x.2.1, value)) := by
  have hil := (List.getElem?_eq_some_iff.1 hx).1
  have hxi : l[i] = x := by rw [List.getElem?_eq_getElem hil] at hx; simpa using hx
  refine ⟨?_, ?_⟩
  · intro y hy
    rcases List.mem_or_eq_of_mem_set hy with hy | rfl
    · exact h.1 y hy
    · exact h.1 x (List.mem_of_getElem? hx)
  · rw [List.pairwise_iff_getElem]
    intro a c ha hc hac
    have e : ∀ k (hk : k < (l.set i (x.1, x.2.1, value)).length), (l.set i (x.1, x.2.1, value))[k].2.1 = (l[k]'(by simpa using hk)).2.1 := by
      intro k hk
      rw [List.getElem_set]
      split
      · rename_i e; subst e; rw [hxi]
      · rfl
    rw [e a ha, e c hc]
    exact (List.pairwise_iff_getElem.1 h.2) a c _ _ hac

/-- What the cells hold behind a save. -/
theorem vals_pad {cs : List MC} {W W' : List (Int × V)} {l : List V} {base n : Nat} (hl : l.length ≤ n) (h : ∀ j, curV cs W' j = if base ≤ j ∧ j < base + n then padV l (j - base) else curV cs W j) : vals cs W' base n = padL l n := by
  apply List.ext_getElem?
  intro i
  by_cases hi : i < n
  · have h1 : (vals cs W' base n)[i]? = some (padV l i) := by
      simp only [vals, List.getElem?_map, List.getElem?_range hi, Option.map_some, h]
      rw [if_pos (by omega), Nat.add_sub_cancel_left]
    rw [h1]
    unfold padL padV
    by_cases hil : i < l.length
    · rw [List.getElem?_append_left hil, List.getElem?_eq_getElem hil]; rfl
    · rw [List.getElem?_append_right (by omega), List.getElem?_replicate, if_pos (by omega)]
      have : l[i]? = none := by simp; omega
      rw [this]; rfl
  · have h1 : (vals cs W' base n)[i]? = none := by simp [vals]; omega
    have h2 : (padL l n)[i]? = none := by simp [padL]; omega
    rw [h1, h2]
end Go.Proofs.Ytnijdnnnhkdjaaa
