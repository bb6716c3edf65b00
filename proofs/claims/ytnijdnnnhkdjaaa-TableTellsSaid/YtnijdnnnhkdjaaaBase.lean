/- Words and small laws that all contracts of this seat use: which blocks a call may change, cells out of a whole block, maps with integer keys. -/
import Derived.Test.YtnijdnnnhkdjaaaChecked
import Derived.WalkKit
import Derived.Lib.Hide
import Derived.Deep.QuietTactic
import Derived.BigQuiet
import Derived.WalkSpells
import Derived.BigRegion
import Derived.Deep.RegionWith
import Derived.Deep.RegionLaw
import Derived.WalkLawsBesides
import Derived.Maps.OwnOps
import Derived.Maps.OwnSet
namespace Go.Proofs.Ytnijdnnnhkdjaaa
set_option linter.unusedSimpArgs false
set_option linter.unusedVariables false
open Go Go.RowKit Go.MapKept

/-- Of what was there, only the blocks in S may have changed. -/
structure Chg (S : List Nat) (w w' : World) : Prop where
  os : w'.os = w.os
  tape : w'.tape = w.tape
  output : w'.output = w.output
  size : w.heap.size ≤ w'.heap.size
  block : ∀ k, k < w.heap.size → k ∉ S → w'.heap[k]? = w.heap[k]?

theorem Chg.refl (S : List Nat) (w : World) : Chg S w w := ⟨rfl, rfl, rfl, Nat.le_refl _, fun _ _ _ => rfl⟩
theorem Chg.trans {S : List Nat} {a b c : World} (h : Chg S a b) (k : Chg S b c) : Chg S a c :=
  ⟨k.os.trans h.os, k.tape.trans h.tape, k.output.trans h.output, Nat.le_trans h.size k.size, fun i hi hs => (k.block i (Nat.lt_of_lt_of_le hi h.size) hs).trans (h.block i hi hs)⟩
theorem Chg.trans' {S T : List Nat} {a b c : World} (h : Chg S a b) (k : Chg T b c) (hT : ∀ x ∈ T, x ∈ S ∨ a.heap.size ≤ x) : Chg S a c :=
  ⟨k.os.trans h.os, k.tape.trans h.tape, k.output.trans h.output, Nat.le_trans h.size k.size, fun i hi hs =>
    (k.block i (Nat.lt_of_lt_of_le hi h.size) (fun e => by rcases hT i e with h1 | h1; exact hs h1; omega)).trans (h.block i hi hs)⟩
theorem Chg.mono {S T : List Nat} {w w' : World} (h : Chg S w w') (hs : ∀ k, k < w.heap.size → k ∈ S → k ∈ T) : Chg T w w' :=
  ⟨h.os, h.tape, h.output, h.size, fun k hk ht => h.block k hk (fun e => ht (hs k hk e))⟩
theorem Chg.of_nil {T : List Nat} {w w' : World} (h : Chg [] w w') : Chg T w w' := h.mono (by simp)
theorem Chg.drew {S : List Nat} {a w : World} (h : Chg S a w) : Chg S a w.drew := ⟨h.os, h.tape, h.output, h.size, h.block⟩
theorem Chg.drewN {S : List Nat} {a w : World} (h : Chg S a w) (n : Nat) : Chg S a (w.drewN n) := ⟨h.os, h.tape, h.output, h.size, h.block⟩
theorem Chg.alloc {S : List Nat} {a w : World} (h : Chg S a w) (o : Obj) : Chg S a (w.alloc o) :=
  ⟨h.os, h.tape, h.output, Nat.le_trans h.size (by simp), fun k hk hs => (Below.heap_alloc _ _ _ (Nat.lt_of_lt_of_le hk h.size)).trans (h.block k hk hs)⟩
theorem Chg.setCell {S : List Nat} {a w : World} (h : Chg S a w) (p : Addr) (u : Value) (hp : p.block ∈ S ∨ a.heap.size ≤ p.block) : Chg S a (w.setCell p u) :=
  ⟨h.os, h.tape, h.output, Nat.le_trans h.size (by simp [World.setCell]), fun k hk hs => (Below.heap_setCell _ _ _ _ (by intro e; subst e; rcases hp with hp | hp; exact hs hp; omega)).trans (h.block k hk hs)⟩
theorem Chg.grown {S : List Nat} {a w w' : World} {row : Option Nat} (h : Chg S a w) (hg : w.grownBy w' row) (hr : ∀ k, row = some k → k ∈ S ∨ a.heap.size ≤ k) : Chg S a w' :=
  ⟨hg.os.trans h.os, hg.tape.trans h.tape, hg.output.trans h.output, Nat.le_trans h.size hg.size, fun k hk hs =>
    (hg.block k (Nat.lt_of_lt_of_le hk h.size) (fun e => by rcases hr k e.symm with h1 | h1; exact hs h1; omega)).trans (h.block k hk hs)⟩
theorem Chg.below {w w' : World} (h : Chg [] w w') : Below w.heap.size w w' := ⟨h.os, h.tape, h.output, h.size, fun k hk => h.block k hk (by simp)⟩
theorem Chg.of_below {w w' : World} (h : Below w.heap.size w w') : Chg [] w w' := ⟨h.os, h.tape, h.output, h.size, fun k hk _ => h.block k hk⟩
/-- A block that may not have changed. -/
theorem Chg.at {S : List Nat} {w w' : World} (h : Chg S w w') {b : Nat} {o : Obj} (hb : w.heap[b]? = some o) (hs : b ∉ S) : w'.heap[b]? = some o := by
  rw [h.block b (Array.getElem?_eq_some_iff.1 hb).1 hs]; exact hb
theorem lt_of_blk {w : World} {b : Nat} {o : Obj} (hb : w.heap[b]? = some o) : b < w.heap.size := (Array.getElem?_eq_some_iff.1 hb).1
theorem Chg.cells {S : List Nat} {w w' : World} (h : Chg S w w') : (∀ b o, b < w.heap.size → b ∉ S → w'.cell? ⟨b, o, none⟩ = w.cell? ⟨b, o, none⟩) ∧ (∀ b o, b < w.heap.size → b ∉ S → w'.frozen? ⟨b, o, none⟩ = w.frozen? ⟨b, o, none⟩) :=
  ⟨fun b o hb hs => World.cell?_of_block (w := w) (h.block b hb hs), fun b o hb hs => World.frozen?_of_block (w := w) (h.block b hb hs)⟩
theorem Chg.cells0 {w w' : World} (h : Chg [] w w') : (∀ b o, b < w.heap.size → w'.cell? ⟨b, o, none⟩ = w.cell? ⟨b, o, none⟩) ∧ (∀ b o, b < w.heap.size → w'.frozen? ⟨b, o, none⟩ = w.frozen? ⟨b, o, none⟩) :=
  ⟨fun b o hb => World.cell?_of_block (w := w) (h.block b hb (by simp)), fun b o hb => World.frozen?_of_block (w := w) (h.block b hb (by simp))⟩
/-- The cells of a block that is known whole. -/
theorem cellAt {w : World} {b : Nat} {cs : Array Value} {T : TypeId} {fz : Nat × Nat} (h : w.heap[b]? = some (.cells cs T fz)) (o : Nat) : w.cell? ⟨b, o, none⟩ = cs[o]? := by
  simp [World.cell?, h]
theorem freeAt {w : World} {b : Nat} {cs : Array Value} {T : TypeId} (h : w.heap[b]? = some (.cells cs T (0, 0))) (o : Nat) : w.frozen? ⟨b, o, none⟩ = false := by
  simp [World.frozen?, h]
theorem blk_setCell {w : World} {b : Nat} {cs : Array Value} {T : TypeId} {fz : Nat × Nat} (h : w.heap[b]? = some (.cells cs T fz)) (o : Nat) (v : Value) :
    (w.setCell ⟨b, o, none⟩ v).heap[b]? = some (.cells (cs.setIfInBounds o v) T fz) := by
  simp [World.setCell, Array.getElem?_modify, h]
theorem blk_setCell_ne {w : World} {b : Nat} {x : Obj} (h : w.heap[b]? = some x) (p : Addr) (v : Value) (hne : b ≠ p.block) : (w.setCell p v).heap[b]? = some x := by
  rw [Below.heap_setCell _ _ _ _ hne]; exact h
theorem blk_alloc {w : World} {b : Nat} {x : Obj} (h : w.heap[b]? = some x) (o : Obj) : (w.alloc o).heap[b]? = some x := by
  rw [Below.heap_alloc _ _ _ (lt_of_blk h)]; exact h
theorem blk_new (w : World) (o : Obj) : (w.alloc o).heap[w.heap.size]? = some o := heap_alloc_new w o

theorem Chg.keep3 {S : List Nat} {w w1 : World} (h : Chg S w w1) {b : Nat} {x y z : Value} {T : TypeId} (hb : w.heap[b]? = some (.cells #[x, y, z] T (0, 0))) (hs : b ∉ S) :
    w1.cell? ⟨b, 0, none⟩ = some x ∧ w1.cell? ⟨b, 1, none⟩ = some y ∧ w1.cell? ⟨b, 2, none⟩ = some z ∧
    w1.frozen? ⟨b, 0, none⟩ = false ∧ w1.frozen? ⟨b, 1, none⟩ = false ∧ w1.frozen? ⟨b, 2, none⟩ = false ∧ b < w1.heap.size ∧ w1.heap[b]? = some (.cells #[x, y, z] T (0, 0)) := by
  have hb1 := h.at hb hs
  exact ⟨cellAt hb1 0, cellAt hb1 1, cellAt hb1 2, freeAt hb1 0, freeAt hb1 1, freeAt hb1 2, lt_of_blk hb1, hb1⟩

theorem ret_int {k : IntKind} {a b : Int} (h : a = b) : Ending.returned (.int k a) = .returned (.int k b) := by rw [h]
theorem ret_bool {a b : Bool} (h : a = b) : Ending.returned (.bool a) = .returned (.bool b) := by rw [h]

/-! ### maps with keys of kind int -/
section
variable {α β : Type}
/-- What a list of keys and values has under a key. -/
def lookK (k : Int) : List (Int × α) → Option α
  | [] => none
  | p :: r => if p.1 = k then some p.2 else lookK k r
/-- Under a key a value. -/
def putK (k : Int) (v : α) : List (Int × α) → List (Int × α)
  | [] => [(k, v)]
  | p :: r => if p.1 = k then (k, v) :: r else p :: putK k v r
/-- The list without a key. -/
def dropK (k : Int) : List (Int × α) → List (Int × α)
  | [] => []
  | p :: r => if p.1 = k then r else p :: dropK k r
/-- The values turned. -/
def vm (f : α → β) (L : List (Int × α)) : List (Int × β) := L.map fun p => (p.1, f p.2)
theorem lookK_vm (f : α → β) (k : Int) (L : List (Int × α)) : lookK k (vm f L) = (lookK k L).map f := by
  induction L with
  | nil => rfl
  | cons p r ih => simp only [vm, List.map_cons, lookK] at *; split <;> simp_all
theorem putK_vm (f : α → β) (k : Int) (v : α) (L : List (Int × α)) : putK k (f v) (vm f L) = vm f (putK k v L) := by
  induction L with
  | nil => rfl
  | cons p r ih => simp only [vm, List.map_cons, putK] at *; split <;> simp_all
theorem dropK_vm (f : α → β) (k : Int) (L : List (Int × α)) : dropK k (vm f L) = vm f (dropK k L) := by
  induction L with
  | nil => rfl
  | cons p r ih => simp only [vm, List.map_cons, dropK] at *; split <;> simp_all
theorem length_vm (f : α → β) (L : List (Int × α)) : (vm f L).length = L.length := by simp [vm]
theorem lookK_putK (k i : Int) (v : α) (L : List (Int × α)) : lookK i (putK k v L) = if k = i then some v else lookK i L := by
  induction L with
  | nil => simp [putK, lookK]
  | cons p r ih =>
    simp only [putK]
    by_cases h : p.1 = k
    · rw [if_pos h]; simp only [lookK]
      by_cases e : k = i
      · rw [if_pos e, if_pos e]
      · rw [if_neg e, if_neg e, if_neg (by rw [h]; exact e)]
    · rw [if_neg h]; simp only [lookK, ih]
      by_cases e : p.1 = i
      · rw [if_pos e, if_pos e, if_neg (by intro x; exact h (by omega))]
      · rw [if_neg e, if_neg e]
theorem keys_putK (k : Int) (v : α) (L : List (Int × α)) : (putK k v L).map (·.1) = if (lookK k L).isSome then L.map (·.1) else L.map (·.1) ++ [k] := by
  induction L with
  | nil => simp [putK, lookK]
  | cons p r ih =>
    simp only [putK, lookK]
    by_cases h : p.1 = k
    · simp [h]
    · simp only [if_neg h, List.map_cons, ih]
      split <;> simp
theorem lookK_none (k : Int) (L : List (Int × α)) : lookK k L = none ↔ k ∉ L.map (·.1) := by
  induction L with
  | nil => simp [lookK]
  | cons p r ih =>
    simp only [lookK, List.map_cons, List.mem_cons, not_or]
    by_cases h : p.1 = k
    · simp [h]
    · rw [if_neg h, ih]; exact ⟨fun x => ⟨fun e => h e.symm, x⟩, fun x => x.2⟩
theorem nodup_putK (k : Int) (v : α) (L : List (Int × α)) (h : (L.map (·.1)).Nodup) : ((putK k v L).map (·.1)).Nodup := by
  rw [keys_putK]
  split
  · exact h
  · rename_i hs
    rw [List.nodup_append]
    refine ⟨h, by simp, ?_⟩
    intro a ha b hb
    simp only [List.mem_singleton] at hb
    subst hb
    intro e
    subst e
    exact hs (by
      cases e2 : lookK a L with
      | none => exact absurd ha ((lookK_none _ _).1 e2)
      | some _ => rfl)
/-- Keys that differ, all from 0 to n - 1: at most n. -/
theorem length_keys (n : Nat) (L : List Int) (h : L.Nodup) (hr : ∀ k ∈ L, 0 ≤ k ∧ k < n) : L.length ≤ n := by
  have h1 : (L.map Int.toNat).Nodup := by
    rw [List.Nodup, List.pairwise_map]
    refine h.imp_of_mem ?_
    intro a b ha hb hab e
    have := hr a ha; have := hr b hb
    omega
  have h2 : ∀ x ∈ L.map Int.toNat, x ∈ List.range n := by
    intro x hx
    obtain ⟨k, hk, rfl⟩ := List.mem_map.1 hx
    have := hr k hk
    simp; omega
  have h3 := List.Nodup.length_le_of_subset h1 h2
  simpa using h3
end
def hasK (k : Int) (L : List (Int × Value)) : Bool := (lookK k L).isSome
def getK (k : Int) (z : Value) (L : List (Int × Value)) : Value := (lookK k L).getD z

/-- Block b is a map that has just this, in the order in which the keys came. -/
def mapL (w : World) (b : Nat) (L : List (Int × Value)) : Prop :=
  ∃ es clk, w.heap[b]? = some (.map es clk) ∧ es.toList.map (fun e => (e.key, e.val)) = L.map (fun p => (Value.int .i64 p.1, p.2)) ∧
    (∀ e ∈ es.toList, e.born < clk) ∧ (es.toList.map (·.born)).Pairwise (· < ·)

theorem mapL.chg {S : List Nat} {w w' : World} {b : Nat} {L : List (Int × Value)} (h : mapL w b L) (hc : Chg S w w') (hb : b ∉ S) : mapL w' b L := by
  obtain ⟨es, clk, h1, h2⟩ := h
  exact ⟨es, clk, hc.at h1 hb, h2⟩
theorem mapL.lt {w : World} {b : Nat} {L : List (Int × Value)} (h : mapL w b L) : b < w.heap.size := by
  obtain ⟨es, clk, h1, h2⟩ := h
  exact lt_of_blk h1
theorem mapL_new (w : World) : mapL (w.alloc (.map #[] 0)) w.heap.size [] := ⟨#[], 0, blk_new _ _, by simp, by simp, by simp⟩
theorem mapL_block {w w' : World} {b : Nat} {L : List (Int × Value)} (h : mapL w b L) (e : w'.heap[b]? = w.heap[b]?) : mapL w' b L := by
  obtain ⟨es, clk, h1, h2⟩ := h
  exact ⟨es, clk, e.trans h1, h2⟩

def kv (e : MapEntry) : Value × Value := (e.key, e.val)
def encK (p : Int × Value) : Value × Value := (Value.int .i64 p.1, p.2)

theorem findNow_int (k : Int) : ∀ (es : List MapEntry) (L : List (Int × Value)) (i : Nat), es.map kv = L.map encK →
    (lookK k L = none ∧ Instr.findNow (.int .i64) (.int .i64 k) es i = some none ∧ (∀ x, putK k x L = L ++ [(k, x)]) ∧ dropK k L = L) ∨
    (∃ v j e, lookK k L = some v ∧ Instr.findNow (.int .i64) (.int .i64 k) es i = some (some (i + j, v)) ∧ es[j]? = some e ∧ e.key = .int .i64 k ∧
      (∀ x, (es.modify j fun e => { e with key := .int .i64 k, val := x }).map kv = (putK k x L).map encK) ∧ (es.eraseIdx j).map kv = (dropK k L).map encK) := by
  intro es
  induction es with
  | nil =>
    intro L i h
    cases L with
    | nil => left; simp [lookK, Instr.findNow, putK, dropK]
    | cons p r => simp at h
  | cons e es ih =>
    intro L i h
    cases L with
    | nil => simp at h
    | cons p r =>
      simp only [List.map_cons, List.cons.injEq] at h
      obtain ⟨h1, h2⟩ := h
      have hk : e.key = .int .i64 p.1 := congrArg Prod.fst h1
      have hv : e.val = p.2 := congrArg Prod.snd h1
      by_cases hp : p.1 = k
      · right
        refine ⟨p.2, 0, e, by simp [lookK, hp], ?_, by simp, by rw [hk, hp], ?_, ?_⟩
        · simp [Instr.findNow, Instr.sameNow, hk, hp, hv]
        · intro x
          simp [putK, hp, kv, encK]
          simpa [kv, encK] using h2
        · simp [dropK, hp]
          exact h2
      · have hp' : ¬ k = p.1 := fun e => hp e.symm
        rcases ih r (i + 1) h2 with ⟨a, b, c, d⟩ | ⟨v, j, e', a, b, c, d, f, g⟩
        · left
          refine ⟨by simp [lookK, hp, a], ?_, by simp [putK, hp, c], by simp [dropK, hp, d]⟩
          have hb : (k == p.1) = false := by simpa using hp'
          simp only [Instr.findNow, Instr.sameNow, hk, if_true, hb]
          exact b
        · right
          refine ⟨v, j + 1, e', by simp [lookK, hp, a], ?_, by simpa using c, d, ?_, ?_⟩
          · have hb : (k == p.1) = false := by simpa using hp'
            simp only [Instr.findNow, Instr.sameNow, hk, if_true, hb]
            rw [b, show i + 1 + j = i + (j + 1) by omega]
          · intro x
            have := f x
            simp [putK, hp] at *
            exact ⟨h1, this⟩
          · simp [dropK, hp] at *
            exact ⟨h1, g⟩

theorem mapL_alloc {w : World} {b : Nat} {L : List (Int × Value)} (h : mapL w b L) (o : Obj) : mapL (w.alloc o) b L :=
  h.chg ((Chg.refl [] w).alloc o) (by simp)
theorem mapL_drew (w : World) (b : Nat) (L : List (Int × Value)) : mapL w.drew b L = mapL w b L := propext ⟨id, id⟩
theorem mapL_drewN (w : World) (b : Nat) (L : List (Int × Value)) (n : Nat) : mapL (w.drewN n) b L = mapL w b L := propext ⟨id, id⟩
theorem mapL_setCell (w : World) (b : Nat) (L : List (Int × Value)) (p : Addr) (v : Value) : mapL (w.setCell p v) b L = mapL w b L := by
  have e : ∀ es clk, (w.setCell p v).heap[b]? = some (Obj.map es clk) ↔ w.heap[b]? = some (Obj.map es clk) := by
    intro es clk
    simp only [World.setCell, Array.getElem?_modify]
    by_cases e : p.block = b
    · subst e
      rw [if_pos rfl]
      cases w.heap[p.block]? with
      | none => simp
      | some o => cases o <;> simp
    · rw [if_neg e]
  simp only [mapL, e]
theorem mapL_alloc2 {w : World} {b : Nat} {L : List (Int × Value)} (h : mapL w b L) (o o2 : Obj) : mapL ((w.alloc o).alloc o2) b L := mapL_alloc (mapL_alloc h o) o2
theorem mapL_alloc3 {w : World} {b : Nat} {L : List (Int × Value)} (h : mapL w b L) (o o2 o3 : Obj) : mapL (((w.alloc o).alloc o2).alloc o3) b L := mapL_alloc (mapL_alloc2 h o o2) o3
theorem mapL_alloc4 {w : World} {b : Nat} {L : List (Int × Value)} (h : mapL w b L) (o o2 o3 o4 : Obj) : mapL ((((w.alloc o).alloc o2).alloc o3).alloc o4) b L := mapL_alloc (mapL_alloc3 h o o2 o3) o4
attribute [go_sem] mapL_alloc mapL_alloc2 mapL_alloc3 mapL_alloc4 mapL_drew mapL_drewN mapL_setCell

theorem getElem_setSelf {h : Array Obj} {b : Nat} (hb : b < h.size) (o : Obj) : (h.setIfInBounds b o)[b]? = some o := by
  simp [Array.getElem?_setIfInBounds, hb]
theorem run_checkKeyInt {P : Program} {K : TypeId} (hk : P.underlying K = some (.int .i64)) (w : World) (em : Bool) (k : Int) : (Instr.checkKey em 10000 K (.int .i64 k)).run P w = .ok () w :=
  Go.MapKept.run_checkKey hk (by simp [Go.MapKept.IsKey]) em 9999

section
variable {P : Program} {T K E : TypeId} (ht : P.underlying T = some (.map K E)) (hk : P.underlying K = some (.int .i64)) (b : Nat) (L : List (Int × Value))
include ht hk

theorem run_lookup_ok (z : Value) (hz : ∀ w, (zeroValue E).run P w = .ok z w) : ∀ (w : World) (k : Int), mapL w b L →
    (Instr.lookup T (.map (some b)) (.int .i64 k) true).run P w = .ok (.tuple #[getK k z L, .bool (hasK k L)]) w := by
  intro w k ⟨es, clk, h1, h2, _⟩
  rcases findNow_int k es.toList L 0 h2 with ⟨a, c, _⟩ | ⟨v, j, e, a, c, _⟩
  · simp [Instr.lookup, run_underlying ht, Go.MapKept.run_getObj_map h1, run_checkKeyInt hk, run_findKey hk c, getK, hasK, a, hz, Result.andThen]
  · simp [Instr.lookup, run_underlying ht, Go.MapKept.run_getObj_map h1, run_checkKeyInt hk, run_findKey hk c, getK, hasK, a, Result.andThen]

theorem run_lookup_one (z : Value) (hz : ∀ w, (zeroValue E).run P w = .ok z w) : ∀ (w : World) (k : Int), mapL w b L →
    (Instr.lookup T (.map (some b)) (.int .i64 k) false).run P w = .ok (getK k z L) w := by
  intro w k ⟨es, clk, h1, h2, _⟩
  rcases findNow_int k es.toList L 0 h2 with ⟨a, c, _⟩ | ⟨v, j, e, a, c, _⟩
  · simp [Instr.lookup, run_underlying ht, Go.MapKept.run_getObj_map h1, run_checkKeyInt hk, run_findKey hk c, getK, a, hz, Result.andThen]
  · simp [Instr.lookup, run_underlying ht, Go.MapKept.run_getObj_map h1, run_checkKeyInt hk, run_findKey hk c, getK, a, Result.andThen]

omit hk in
theorem run_lenMap (ty : TypeId) : ∀ (w : World), mapL w b L → (Builtin.len_ #[T] ty #[.map (some b)]).run P w = .ok (.int .i64 L.length) w := by
  intro w ⟨es, clk, h1, h2, _⟩
  have hl : es.size = L.length := by have := congrArg List.length h2; simpa using this
  simp [Builtin.len_, run_underlying ht, Go.MapKept.run_getObj_map h1, goInt, hl, Result.andThen]

theorem run_mapUpdate (w : World) (k : Int) (x : Value) (h : mapL w b L) :
    ∃ w', (Instr.mapUpdate T (.map (some b)) (.int .i64 k) x).run P w = .ok () w' ∧ mapL w' b (putK k x L) ∧ Chg [b] w w' ∧ w'.heap.size = w.heap.size := by
  obtain ⟨es, clk, h1, h2, h3, h4⟩ := h
  have hb := lt_of_blk h1
  rcases findNow_int k es.toList L 0 h2 with ⟨a, c, d, _⟩ | ⟨v, j, e, a, c, he, hke, d, _⟩
  · refine ⟨{ w with heap := w.heap.setIfInBounds b (.map (es.push { key := .int .i64 k, val := x, born := clk }) (clk + 1)) }, ?_, ⟨_, _, getElem_setSelf hb _, ?_, ?_, ?_⟩, ⟨rfl, rfl, rfl, by simp, ?_⟩, by simp⟩
    · simp [Instr.mapUpdate, run_underlying ht, Go.MapKept.run_getObj_map h1, run_checkKeyInt hk, run_findKey hk c, Go.MapKept.run_setObj_map _ h1, Result.andThen]
    · rw [d x]
      have h2' : es.toList.map (fun e => (e.key, e.val)) = L.map (fun p => (Value.int .i64 p.1, p.2)) := h2
      simp [h2']
    · intro e he
      simp at he
      rcases he with he | rfl
      · have := h3 e (by simpa using he); omega
      · simp
    · simp only [Array.toList_push, List.map_append, List.map_cons, List.map_nil, List.pairwise_append]
      refine ⟨h4, by simp, ?_⟩
      intro u hu v hv
      simp at hu hv
      obtain ⟨e, he, rfl⟩ := hu
      have := h3 e (by simpa using he)
      omega
    · intro q hq hs
      simp at hs
      simp [Array.getElem?_setIfInBounds, hs]
      intro hh; exact absurd hh.symm hs
  · have hes : es[j]? = some e := by simpa using he
    refine ⟨{ w with heap := w.heap.setIfInBounds b (.map (es.modify j fun e => { e with key := .int .i64 k, val := x }) clk) }, ?_, ⟨_, _, getElem_setSelf hb _, ?_, ?_, ?_⟩, ⟨rfl, rfl, rfl, by simp, ?_⟩, by simp⟩
    · simp [Instr.mapUpdate, run_underlying ht, Go.MapKept.run_getObj_map h1, run_checkKeyInt hk, run_findKey hk c, Go.MapKept.run_setObj_map _ h1, hes, hke, Instr.keyThatStays, Instr.sameBits, Result.andThen]
    · have := d x
      simp only [Array.toList_modify]
      exact this
    · intro e' he'
      have hm : (es.modify j fun e => { e with key := .int .i64 k, val := x }).toList.map (·.born) = es.toList.map (·.born) := by
        apply List.ext_getElem?
        intro i
        simp [List.getElem?_modify]
        cases es[i]? <;> simp
        split <;> rfl
      have : e'.born ∈ es.toList.map (·.born) := by rw [← hm]; exact List.mem_map_of_mem he'
      obtain ⟨e2, he2, h5⟩ := List.mem_map.1 this
      rw [← h5]; exact h3 e2 he2
    · have hm : (es.modify j fun e => { e with key := .int .i64 k, val := x }).toList.map (·.born) = es.toList.map (·.born) := by
        apply List.ext_getElem?
        intro i
        simp [List.getElem?_modify]
        cases es[i]? <;> simp
        split <;> rfl
      rw [hm]; exact h4
    · intro q hq hs
      simp at hs
      simp [Array.getElem?_setIfInBounds, hs]
      intro hh; exact absurd hh.symm hs

theorem run_delete (ty T' : TypeId) (w : World) (k : Int) (h : mapL w b L) :
    ∃ w', (Builtin.delete_ #[T, T'] ty #[.map (some b), .int .i64 k]).run P w = .ok (.tuple #[]) w' ∧ mapL w' b (dropK k L) ∧ Chg [b] w w' ∧ w'.heap.size = w.heap.size := by
  obtain ⟨es, clk, h1, h2, h3, h4⟩ := h
  have hb := lt_of_blk h1
  rcases findNow_int k es.toList L 0 h2 with ⟨a, c, d, d2⟩ | ⟨v, j, e, a, c, he, hke, d, d2⟩
  · refine ⟨{ w with heap := w.heap.setIfInBounds b (.map es clk) }, ?_, ⟨_, _, getElem_setSelf hb _, ?_, h3, h4⟩, ⟨rfl, rfl, rfl, by simp, ?_⟩, by simp⟩
    · simp [Builtin.delete_, run_underlying ht, Go.MapKept.run_getObj_map h1, run_checkKeyInt hk, run_findKey hk c, Go.MapKept.run_setObj_map _ h1, Result.andThen]
    · rw [d2]; exact h2
    · intro q hq hs
      simp at hs
      simp [Array.getElem?_setIfInBounds, hs]
      intro hh; exact absurd hh.symm hs
  · refine ⟨{ w with heap := w.heap.setIfInBounds b (.map (es.eraseIdxIfInBounds j) clk) }, ?_, ⟨_, _, getElem_setSelf hb _, ?_, ?_, ?_⟩, ⟨rfl, rfl, rfl, by simp, ?_⟩, by simp⟩
    · simp [Builtin.delete_, run_underlying ht, Go.MapKept.run_getObj_map h1, run_checkKeyInt hk, run_findKey hk c, Go.MapKept.run_setObj_map _ h1, Result.andThen]
    · have := d2
      simp only [Array.toList_eraseIdxIfInBounds]
      exact this
    · intro e' he'
      simp at he'
      exact h3 e' (by simpa using List.mem_of_mem_eraseIdx he')
    · have hj : (es.eraseIdxIfInBounds j).toList = es.toList.eraseIdx j := by simp
      rw [hj]
      exact h4.sublist ((List.eraseIdx_sublist _ _).map _)
    · intro q hq hs
      simp at hs
      simp [Array.getElem?_setIfInBounds, hs]
      intro hh; exact absurd hh.symm hs
end

/-- The world behind 'm[k] = x'. -/
def putW (P : Program) (T : TypeId) (w : World) (b : Nat) (k : Int) (x : Value) : World :=
  match (Instr.mapUpdate T (.map (some b)) (.int .i64 k) x).run P w with
  | .ok _ w' => w'
  | .halt _ w' => w'
section
variable {P : Program} {T K E : TypeId} (ht : P.underlying T = some (.map K E)) (hk : P.underlying K = some (.int .i64)) (b : Nat) (L : List (Int × Value))
include ht hk
theorem run_put : ∀ (w : World) (k : Int) (x : Value), mapL w b L → (Instr.mapUpdate T (.map (some b)) (.int .i64 k) x).run P w = .ok () (putW P T w b k x) := by
  intro w k x h
  obtain ⟨w', h1, _⟩ := run_mapUpdate ht hk b L w k x h
  simp [putW, h1]
theorem putW_facts {w : World} (k : Int) (x : Value) (h : mapL w b L) : mapL (putW P T w b k x) b (putK k x L) ∧ Chg [b] w (putW P T w b k x) ∧ (putW P T w b k x).heap.size = w.heap.size := by
  obtain ⟨w', h1, h2, h3, h4⟩ := run_mapUpdate ht hk b L w k x h
  have e : putW P T w b k x = w' := by simp [putW, h1]
  rw [e]; exact ⟨h2, h3, h4⟩
end

section
variable {P : Program} (w : World) {ops : Array Oper} {rest : List Oper} {o : Oper} {a : Act} {Q : Exit → Act → World → Prop}
/-- 'm[k] = v' in the walk. -/
theorem wp_put (hg : o.guard = none) (m x v : Operand) (T : TypeId) (hop : o.op = Op.mapUpdate T m x v) (K E : TypeId)
    (ht : P.underlying T = some (.map K E)) (hk : P.underlying K = some (.int .i64)) (b : Nat) (L : List (Int × Value)) (k : Int) (y : Value)
    (hm : a.eval m = .map (some b)) (hx : a.eval x = .int .i64 k) (hv : a.eval v = y) (h : mapL w b L)
    (hK : ∀ w', mapL w' b (putK k y L) → Chg [b] w w' → w'.heap.size = w.heap.size → wpList P ops Q rest (a.put o.dst undef) w') :
    wpList P ops Q (o :: rest) a w := by
  refine wpList_plain hg fun K' hK' => ?_
  obtain ⟨w', hrun, r1, r2, r3⟩ := run_mapUpdate ht hk b L w k y h
  unfold Oper.wp
  simp [execOp, hop, hm, hx, hv, hrun, Result.andThen]
  exact hK' _ _ (hK w' r1 r2 r3)
/-- 'delete(m, k)' in the walk. -/
theorem wp_del (hg : o.guard = none) (m x : Operand) (T T' : TypeId) (hop : o.op = Op.call { callee := Callee.builtin Builtin.delete, args := #[m, x], argTypes := #[T, T'] }) (K E : TypeId)
    (ht : P.underlying T = some (.map K E)) (hk : P.underlying K = some (.int .i64)) (b : Nat) (L : List (Int × Value)) (k : Int)
    (hm : a.eval m = .map (some b)) (hx : a.eval x = .int .i64 k) (h : mapL w b L)
    (hK : ∀ w', mapL w' b (dropK k L) → Chg [b] w w' → w'.heap.size = w.heap.size → wpList P ops Q rest (a.put o.dst (.tuple #[])) w') :
    wpList P ops Q (o :: rest) a w := by
  refine wpList_plain hg fun K' hK' => ?_
  obtain ⟨w', hrun, r1, r2, r3⟩ := run_delete ht hk b L o.type T' w k h
  unfold Oper.wp
  simp [execOp, hop, resolve, invoke, builtin, hm, hx, hrun, Result.andThen]
  exact hK' _ _ (hK w' r1 r2 r3)
end

/-! ### a row of cells, written -/
theorem row_new {w : World} {g : Nat} {cur : Array Value} {t : TypeId} {fr : Nat × Nat} (h : w.heap[g]? = some (.cells cur t fr)) (cs : Array Value) : (w.setRow g cs).heap[g]? = some (.cells cs t fr) := by
  simp [World.setRow, Array.getElem?_modify, h]
theorem row_other (w : World) (g k : Nat) (cs : Array Value) (h : k ≠ g) : (w.setRow g cs).heap[k]? = w.heap[k]? := by
  simp only [World.setRow, Array.getElem?_modify]
  rw [if_neg (by omega)]
theorem Chg.setRow {S : List Nat} {a w : World} (h : Chg S a w) (g : Nat) (cs : Array Value) (hg : g ∈ S ∨ a.heap.size ≤ g) : Chg S a (w.setRow g cs) :=
  h.trans' (T := [g]) ⟨rfl, rfl, rfl, by simp, fun k hk hs => row_other _ _ _ _ (fun e => by simp [e] at hs)⟩ (by intro k hk; simp at hk; subst hk; exact hg)
/-- 's = append(s, x...)' where there is room. -/
theorem run_append_row {P : Program} {t e : TypeId} (ty : TypeId) {i : TypeInfo} (ht : P.underlying t = some (.slice e)) (hi : P.info? e = some i) {w : World} {g sLen sCap : Nat} {cur : Array Value}
    (hg : w.heap[g]? = some (.cells cur e (0, 0))) (a : Addr) (m c : Nat) (news : List Value) (hl : news.length = m * i.size) (hnews : ∀ j u, news[j]? = some u → w.cell? (a.add j) = some u) (h1 : ∀ u ∈ news, u.oneCell' = true)
    (hroom : sLen + m ≤ sCap) (hfit : sLen * i.size + news.length ≤ cur.size) (n' : Nat) (hn' : n' = sLen + m) (cs : Array Value) (hcs : cs = (cur.toList.take (sLen * i.size) ++ news ++ cur.toList.drop (sLen * i.size + news.length)).toArray) :
    (Builtin.append_ #[t, t] ty #[.slice (some ⟨g, 0, none⟩) sLen sCap, .slice (some a) m c]).run P w = .ok (.slice (some ⟨g, 0, none⟩) n' sCap) (w.setRow g cs) := by
  subst hn' hcs
  exact run_append_room w t ty e i ht hi g sLen sCap cur hg a m c news hl hnews h1 hroom hfit
theorem mem_zeroCells {z : Array Value} {n : Nat} {u : Value} (hz : 0 < z.size) (h : u ∈ (Builtin.zeroCells z n).toList) : u ∈ z := by
  simp only [Builtin.zeroCells, Array.toList_map, Array.toList_range, List.mem_map, List.mem_range] at h
  obtain ⟨j, _, rfl⟩ := h
  rw [getElem!_pos z (j % z.size) (Nat.mod_lt _ hz)]
  exact Array.getElem_mem _
/-- 'clear(s)' at a slice of m > 0 elements. -/
theorem run_clear_row {P : Program} {t e : TypeId} (ty : TypeId) (ht : P.underlying t = some (.slice e)) (z : Value) (hz : ∀ w, (zeroValue e).run P w = .ok z w) (hzs : 0 < z.cells.size) (h1 : ∀ u ∈ z.cells, u.oneCell' = true)
    {w : World} {g o m c : Nat} {cur : Array Value} (hg : w.heap[g]? = some (.cells cur e (0, 0))) (hm : 0 < m) (hfit : o + m * z.cells.size ≤ cur.size) :
    (Builtin.clear_ #[t] ty #[.slice (some ⟨g, o, none⟩) m c]).run P w = .ok (.tuple #[])
      (w.setRow g (cur.toList.take o ++ (Builtin.zeroCells z.cells m).toList ++ cur.toList.drop (o + m * z.cells.size)).toArray) := by
  have hl : (Builtin.zeroCells z.cells m).toList.length = m * z.cells.size := by simp [Builtin.zeroCells]
  have hst := run_storeCells_at P g o e (Builtin.zeroCells z.cells m).toList 0 cur w hg (by rw [hl]; simpa using hfit) (fun v hv => h1 v (mem_zeroCells hzs hv))
  rw [hl] at hst
  simp only [Nat.add_zero] at hst
  obtain ⟨k, rfl⟩ : ∃ k, m = k + 1 := ⟨m - 1, by omega⟩
  simp [Builtin.clear_, run_underlying ht, hz, hst, Result.andThen]

/-- An append whose run is known, in a region that draws its order. -/
theorem step_append_run {P : Program} {ops : Array Oper} {o : Oper} {a : Act} {w : World} {K : Act → World → Prop} {Q : Exit → Act → World → Prop} {E : Prop}
    (hg : o.guard = none) (s x : Operand) (t : TypeId) (hop : o.op = Op.call { callee := Callee.builtin Builtin.append, args := #[s, x], argTypes := #[t, t] }) (v1 v2 : Value) (hs : a.eval s = v1) (hx : a.eval x = v2)
    (v' : Value) (w' : World) (hrun : ∀ ty, (Builtin.append_ #[t, t] ty #[v1, v2]).run P w = .ok v' w') (hK : K (a.put o.dst v') w') :
    if Region.wanted o (yielded ops a.tmps) = true then Oper.wp P o a w K Q else E := by
  have hw : Region.wanted o (yielded ops a.tmps) = true := by simp [Region.wanted, hg]
  rw [if_pos hw]
  unfold Oper.wp
  simp [execOp, hop, resolve, invoke, builtin, hs, hx, hrun, Result.andThen]
  exact hK
/-- An append whose run is known. -/
theorem wp_append_run {P : Program} {ops : Array Oper} {o : Oper} {a : Act} {w : World} {Q : Exit → Act → World → Prop} {rest : List Oper}
    (hg : o.guard = none) (s x : Operand) (t : TypeId) (hop : o.op = Op.call { callee := Callee.builtin Builtin.append, args := #[s, x], argTypes := #[t, t] }) (v1 v2 : Value) (hs : a.eval s = v1) (hx : a.eval x = v2)
    (v' : Value) (w' : World) (hrun : ∀ ty, (Builtin.append_ #[t, t] ty #[v1, v2]).run P w = .ok v' w') (hK : wpList P ops Q rest (a.put o.dst v') w') : wpList P ops Q (o :: rest) a w := by
  refine wpList_plain hg fun K' hK' => ?_
  unfold Oper.wp
  simp [execOp, hop, resolve, invoke, builtin, hs, hx, hrun, Result.andThen]
  exact hK' _ _ hK
/-- A call of a builtin with one argument (clear, len), or two (copy), whose run is known. -/
theorem wp_clear_run {P : Program} {ops : Array Oper} {o : Oper} {a : Act} {w : World} {Q : Exit → Act → World → Prop} {rest : List Oper}
    (hg : o.guard = none) (s : Operand) (t : TypeId) (hop : o.op = Op.call { callee := Callee.builtin Builtin.clear, args := #[s], argTypes := #[t] }) (v1 : Value) (hs : a.eval s = v1)
    (v' : Value) (w' : World) (hrun : ∀ ty, (Builtin.clear_ #[t] ty #[v1]).run P w = .ok v' w') (hK : wpList P ops Q rest (a.put o.dst v') w') : wpList P ops Q (o :: rest) a w := by
  refine wpList_plain hg fun K' hK' => ?_
  unfold Oper.wp
  simp [execOp, hop, resolve, invoke, builtin, hs, hrun, Result.andThen]
  exact hK' _ _ hK
theorem wp_copy_run {P : Program} {ops : Array Oper} {o : Oper} {a : Act} {w : World} {Q : Exit → Act → World → Prop} {rest : List Oper}
    (hg : o.guard = none) (s x : Operand) (t u : TypeId) (hop : o.op = Op.call { callee := Callee.builtin Builtin.copy, args := #[s, x], argTypes := #[t, u] }) (v1 v2 : Value) (hs : a.eval s = v1) (hx : a.eval x = v2)
    (v' : Value) (w' : World) (hrun : ∀ ty, (Builtin.copy_ #[t, u] ty #[v1, v2]).run P w = .ok v' w') (hK : wpList P ops Q rest (a.put o.dst v') w') : wpList P ops Q (o :: rest) a w := by
  refine wpList_plain hg fun K' hK' => ?_
  unfold Oper.wp
  simp [execOp, hop, resolve, invoke, builtin, hs, hx, hrun, Result.andThen]
  exact hK' _ _ hK

theorem step_copy_run {P : Program} {ops : Array Oper} {o : Oper} {a : Act} {w : World} {K : Act → World → Prop} {Q : Exit → Act → World → Prop} {E : Prop}
    (hg : o.guard = none) (s x : Operand) (t u : TypeId) (hop : o.op = Op.call { callee := Callee.builtin Builtin.copy, args := #[s, x], argTypes := #[t, u] }) (v1 v2 : Value) (hs : a.eval s = v1) (hx : a.eval x = v2)
    (v' : Value) (w' : World) (hrun : ∀ ty, (Builtin.copy_ #[t, u] ty #[v1, v2]).run P w = .ok v' w') (hK : K (a.put o.dst v') w') :
    if Region.wanted o (yielded ops a.tmps) = true then Oper.wp P o a w K Q else E := by
  have hw : Region.wanted o (yielded ops a.tmps) = true := by simp [Region.wanted, hg]
  rw [if_pos hw]
  unfold Oper.wp
  simp [execOp, hop, resolve, invoke, builtin, hs, hx, hrun, Result.andThen]
  exact hK
/-- A list, written over from a place on. -/
def ovw (C : List Value) (o : Nat) (xs : List Value) : List Value := C.take o ++ xs ++ C.drop (o + xs.length)
theorem length_ovw (C : List Value) (o : Nat) (xs : List Value) (h : o + xs.length ≤ C.length) : (ovw C o xs).length = C.length := by
  simp [ovw]; omega
theorem take_ovw (C : List Value) (o : Nat) (xs : List Value) (h : o + xs.length ≤ C.length) : (ovw C o xs).take (o + xs.length) = C.take o ++ xs := by
  unfold ovw
  rw [List.take_append_of_le_length (by simp; omega), List.take_of_length_le (by simp; omega)]
theorem take_ovw_lt (C : List Value) (o k : Nat) (xs : List Value) (h : o + xs.length ≤ C.length) (hk : k ≤ o) : (ovw C o xs).take k = C.take k := by
  unfold ovw
  rw [List.append_assoc, List.take_append_of_le_length (by simp; omega), List.take_take, Nat.min_eq_left hk]
theorem drop_ovw_ge (C : List Value) (o k : Nat) (xs : List Value) (h : o + xs.length ≤ C.length) (hk : o + xs.length ≤ k) : (ovw C o xs).drop k = C.drop k := by
  unfold ovw
  rw [List.drop_append, List.drop_of_length_le (by simp; omega), List.nil_append, List.drop_drop]
  congr 1
  simp
  omega
theorem drop_ovw (C : List Value) (o : Nat) (xs : List Value) (h : o + xs.length ≤ C.length) : (ovw C o xs).drop o = xs ++ C.drop (o + xs.length) := by
  unfold ovw
  rw [List.append_assoc, List.drop_append, List.drop_of_length_le (by simp; omega), List.nil_append]
  have : o - (C.take o).length = 0 := by simp; omega
  rw [this, List.drop_zero]
theorem ovw_ahead (C : List Value) (o : Nat) (A B : List Value) (h : o + B.length + A.length ≤ C.length) : (ovw (ovw C (o + B.length) A) o B).take (o + B.length + A.length) = C.take o ++ B ++ A := by
  have e1 : (ovw (ovw C (o + B.length) A) o B) = C.take o ++ B ++ (A ++ C.drop (o + B.length + A.length)) := by
    show (ovw C (o + B.length) A).take o ++ B ++ (ovw C (o + B.length) A).drop (o + B.length) = _
    rw [take_ovw_lt _ _ _ _ (by omega) (by omega), drop_ovw _ _ _ (by omega)]
  rw [e1, ← List.append_assoc, List.take_append_of_le_length (by simp; omega), List.take_of_length_le (by simp; omega)]
theorem ovw_behind (C : List Value) (o : Nat) (A B : List Value) (h : o + B.length + A.length ≤ C.length) : (ovw (ovw C o B) (o + B.length) A).take (o + B.length + A.length) = C.take o ++ B ++ A := by
  rw [take_ovw _ _ _ (by rw [length_ovw _ _ _ (by omega)]; omega), take_ovw _ _ _ (by omega)]
/-- 'copy(d, s)' into a row. -/
theorem run_copy_rows {P : Program} {t e : TypeId} (ty : TypeId) {i : TypeInfo} (ht : P.underlying t = some (.slice e)) (hi : P.info? e = some i) {w : World} {g o dLen dCap sLen sCap : Nat} {cur : List Value} {tc : TypeId}
    (hg : w.heap[g]? = some (.cells cur.toArray tc (0, 0))) (a : Addr) (cs : List Value) (m : Nat) (hm : m = Nat.min sLen dLen) (hn : cs.length = m * i.size)
    (hsrc : ∀ j v, cs[j]? = some v → w.cell? (a.add j) = some v) (hfit : o + cs.length ≤ cur.length) (h1 : ∀ v ∈ cs, v.oneCell' = true) :
    (Builtin.copy_ #[t, t] ty #[.slice (some ⟨g, o, none⟩) dLen dCap, .slice (some a) sLen sCap]).run P w = .ok (.int .i64 m) (w.setRow g (ovw cur o cs).toArray) := by
  have hl := run_loadCells_list (P := P) w a cs hsrc
  have hst := run_storeCells_at P g o tc cs 0 cur.toArray w hg (by simpa using hfit) h1
  subst hm
  rw [hn] at hl
  simp [Builtin.copy_, run_underlying ht, Builtin.lenOf, Builtin.firstCells, sizeOf, typeInfo, hi, hl, hst, goInt, ovw, Result.andThen]
theorem cells_from_row {w : World} {g o : Nat} {cur cs : List Value} {t : TypeId} {fz : Nat × Nat} (hg : w.heap[g]? = some (.cells cur.toArray t fz)) (h : (cur.drop o).take cs.length = cs) :
    ∀ j v, cs[j]? = some v → w.cell? ((⟨g, o, none⟩ : Addr).add j) = some v := by
  intro j v hv
  have hadd : (⟨g, o, none⟩ : Addr).add j = ⟨g, o + j, none⟩ := by unfold Addr.add; split <;> simp_all
  have hj := (List.getElem?_eq_some_iff.1 hv).1
  rw [hadd, cellAt hg]
  rw [← h, List.getElem?_take, if_pos (by omega), List.getElem?_drop] at hv
  simpa using hv

end Go.Proofs.Ytnijdnnnhkdjaaa
