/- Keys in order: plain laws on lists of entries. -/
import Derived.Test.YtnijdnnnhkdjaaaTabB
namespace Go.Proofs.Ytnijdnnnhkdjaaa
set_option linter.unusedSimpArgs false
set_option linter.unusedVariables false
open Go Go.RowKit Go.MapKept

/-! ### comparing keys -/
theorem cmp_lt (a b : List UInt8) : Lib.compareBytes a b < 0 ↔ Op.bytesLess a b = true := by
  induction a generalizing b with
  | nil => cases b <;> simp [Lib.compareBytes, Op.bytesLess]
  | cons x r ih =>
    cases b with
    | nil => simp [Lib.compareBytes, Op.bytesLess]
    | cons y s =>
      simp only [Lib.compareBytes, Op.bytesLess]
      by_cases h1 : x < y
      · simp [h1]
      · by_cases h2 : y < x
        · have h3 : ¬ x = y := by rintro rfl; exact absurd h2 h1
          simp [h1, h2, h3]
        · have h3 : x = y := by
            have := UInt8.le_antisymm (UInt8.not_lt.1 h2) (UInt8.not_lt.1 h1)
            exact this
          subst h3
          simp [h1, ih]
theorem cmp_eq (a b : List UInt8) : Lib.compareBytes a b = 0 ↔ a = b := by
  induction a generalizing b with
  | nil => cases b <;> simp [Lib.compareBytes]
  | cons x r ih =>
    cases b with
    | nil => simp [Lib.compareBytes]
    | cons y s =>
      simp only [Lib.compareBytes]
      by_cases h1 : x < y
      · have h3 : ¬ x = y := by rintro rfl; exact absurd h1 (UInt8.lt_irrefl _)
        simp [h1, h3]
      · by_cases h2 : y < x
        · have h3 : ¬ x = y := by rintro rfl; exact absurd h2 h1
          simp [h1, h2, h3]
        · have h3 : x = y := UInt8.le_antisymm (UInt8.not_lt.1 h2) (UInt8.not_lt.1 h1)
          subst h3
          simp [h1, ih]
theorem less_trans (a b c : List UInt8) (h1 : Op.bytesLess a b = true) (h2 : Op.bytesLess b c = true) : Op.bytesLess a c = true := by
  induction a generalizing b c with
  | nil =>
    cases c with
    | nil => cases b <;> simp [Op.bytesLess] at h2
    | cons z t => simp [Op.bytesLess]
  | cons x r ih =>
    cases b with
    | nil => simp [Op.bytesLess] at h1
    | cons y s =>
      cases c with
      | nil => simp [Op.bytesLess] at h2
      | cons z t =>
        simp only [Op.bytesLess, Bool.or_eq_true, Bool.and_eq_true, decide_eq_true_eq, beq_iff_eq] at *
        rcases h1 with h1 | ⟨rfl, h1⟩
        · rcases h2 with h2 | ⟨rfl, h2⟩
          · exact .inl (UInt8.lt_trans h1 h2)
          · exact .inl h1
        · rcases h2 with h2 | ⟨rfl, h2⟩
          · exact .inl h2
          · exact .inr ⟨rfl, ih s t h1 h2⟩
theorem less_irrefl (a : List UInt8) : Op.bytesLess a a = false := by
  induction a with
  | nil => rfl
  | cons x r ih => simp [Op.bytesLess, ih]

/-- Rising keys, all used. -/
def Rising (l : List V) : Prop := (∀ x ∈ l, x.1 = true) ∧ l.Pairwise (fun x y => Op.bytesLess x.2.1.toList y.2.1.toList = true)

/-- How many keys are below. -/
def posOf (l : List V) (key : ByteArray) : Nat := (l.takeWhile fun x => Op.bytesLess x.2.1.toList key.toList).length
theorem posOf_le (l : List V) (key : ByteArray) : posOf l key ≤ l.length := by
  induction l with
  | nil => simp [posOf]
  | cons x r ih => simp only [posOf, List.takeWhile_cons] at *; split <;> simp; omega
theorem posOf_spec {l : List V} (h : l.Pairwise (fun x y => Op.bytesLess x.2.1.toList y.2.1.toList = true)) (key : ByteArray) : ∀ a x, l[a]? = some x → (a < posOf l key ↔ cmpE x key < 0) := by
  have hc : ∀ x : V, cmpE x key < 0 ↔ Op.bytesLess x.2.1.toList key.toList = true := by
    intro x
    unfold cmpE
    rw [cmp_lt, ByteArray.toList_eq, ByteArray.toList_eq]
  intro a x hx
  rw [hc]
  induction l generalizing a with
  | nil => simp at hx
  | cons z r ih =>
    rw [List.pairwise_cons] at h
    cases hz : Op.bytesLess z.2.1.toList key.toList with
    | true =>
      have hp : posOf (z :: r) key = posOf r key + 1 := by simp [posOf, List.takeWhile_cons, hz]
      cases a with
      | zero => simp at hx; subst hx; simp [hp, hz]
      | succ a => rw [hp]; have := ih h.2 a (by simpa using hx); constructor
                  · intro q; exact this.1 (by omega)
                  · intro q; have := this.2 q; omega
    | false =>
      have hp : posOf (z :: r) key = 0 := by simp [posOf, List.takeWhile_cons, hz]
      rw [hp]
      constructor
      · intro q; omega
      · intro q
        exfalso
        cases a with
        | zero => simp at hx; subst hx; rw [hz] at q; cases q
        | succ a =>
          have hm : x ∈ r := List.mem_of_getElem? (by simpa using hx)
          have := less_trans _ _ _ (h.1 x hm) q
          rw [hz] at this; cases this

end Go.Proofs.Ytnijdnnnhkdjaaa
