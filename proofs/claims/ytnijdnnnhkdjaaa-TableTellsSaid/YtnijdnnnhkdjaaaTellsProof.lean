/- The statement TableTells holds: without any condition the law returns true and changes nothing that was there. -/
import Derived.Test.YtnijdnnnhkdjaaaRows
import Derived.Test.YtnijdnnnhkdjaaaTellsB
import Derived.Deep.Slices
import Derived.Deep.Fields
import Derived.ChangeSame
import Derived.Carry
import Derived.WalkKit
import Derived.ProofKit
import Derived.OpenShut
namespace Go.Proofs.Ytnijdnnnhkdjaaa.tableTells
open Go.ChangeShapes Go.WideShapes Go.ChangeAt Go.RowKit Go.Deep Go.WideElems
set_option linter.unusedVariables false      -- a walk need not use every 'w<i>' (that an integer argument fits its kind)

theorem own : ownKnob Try.prog.godebug = none := by kernel_rfl

section
variable {H : Type} {enc : TypeId × Value → H} {P : Program} {w : World} {base : Nat} {spare : Nat → Bool} {held : Bool}
theorem open_slice_fields {t e : TypeId} {fs : Array Field} {fuel : Nat} {cs : List Value} {x : DataW H × List MemPlace} (ht : P.underlying t = some (.slice e)) (he : P.underlying e = some (.struct fs))
    (hone : oneCellFields P fs = true) (hC : P.cellsOf e = fs.size) (h : DataW.trod enc P w base spare held fuel t cs = some x) :
    (cs = [.slice none 0 0] ∧ x = (.nil, [])) ∨
    ∃ (a : Addr) (len cap m : Nat) (D : Nat → DataW H) (Pl : Nat → List MemPlace), cs = [.slice (some a) len cap] ∧ base ≤ a.block ∧ len ≤ cap ∧ cap ≤ maxLen ∧ m = (if spare a.block then cap else len) ∧
      x = (.slice ((List.range len).map D) ((List.range (m - len)).map fun j => D (len + j)), MemPlace.row a (m * fs.size) ++ (List.range m).flatMap Pl) ∧
      ∀ i, i < m → ∃ (ys : List (DataW H × List MemPlace)) (n : Nat), D i = .agg (ys.map (·.1)) ∧ Pl i = ys.flatMap (·.2) ∧ ys.length = fs.size ∧
        ∀ (j : Nat) (f : Field), fs[j]? = some f → ∃ (v : Value) (y : DataW H × List MemPlace), w.cell? (a.add (i * fs.size + j)) = some v ∧ ys[j]? = some y ∧ DataW.trod enc P w base spare held n f.type [v] = some y := by
  rcases open_slice ht h with h0 | ⟨a, len, cap, m, n, D, Pl, hcs, hb, hl, hm, hmm, hx, hi⟩
  · exact .inl h0
  · refine .inr ⟨a, len, cap, m, D, Pl, hcs, hb, hl, hm, hmm, by rw [hC] at hx; exact hx, fun i him => ?_⟩
    obtain ⟨cs', hc, ht'⟩ := hi i him
    rw [hC] at hc
    obtain ⟨ys, n', hn', hy, hlen, hyl, hf⟩ := DataW.trod_struct he ht'
    obtain ⟨_, hcl, hat⟩ := World.cells?_some hc
    simp only [Prod.mk.injEq] at hy
    refine ⟨ys, n', hy.1, hy.2, hyl, fun j f hj => ?_⟩
    obtain ⟨ho, hk⟩ := hone_of hone j f hj
    have hjl : j < fs.size := (Array.getElem?_eq_some_iff.1 hj).1
    have hcell := hat j hjl
    have hv : cs'[j]? = some (cs'[j]'(by omega)) := List.getElem?_eq_getElem (by omega)
    have h1 := hf j f hj
    rw [ho, hk] at h1
    have hone' : (cs'.drop j).take 1 = [cs'[j]'(by omega)] := by
      rw [List.drop_eq_getElem_cons (by omega)]
      rfl
    rw [hone'] at h1
    have hys : ys[j]? = some (ys[j]'(by omega)) := List.getElem?_eq_getElem (by omega)
    refine ⟨_, _, ?_, hys, h1.trans hys⟩
    rw [← Go.Deep.add_add, hcell, hv]
end

theorem laidOut : laidOutB Try.prog = true := by kernel_rfl
theorem walk (w : World) (base n : Int) (p : Option Addr) (cap : Nat) (lo : List OpV) (g off : Nat) (hp : 0 < lo.length → p = some ⟨g, off, none⟩ ∧ g < w.heap.size) (hlc : lo.length ≤ cap) (hmax : cap ≤ 9223372036854775807)
    (hcell : ∀ (i : Nat) (x : OpV), lo[i]? = some x → w.cell? ⟨g, off + i * 3, none⟩ = some (.int .i64 x.1) ∧ w.cell? ⟨g, off + i * 3 + 1, none⟩ = some (.string x.2.1) ∧ w.cell? ⟨g, off + i * 3 + 2, none⟩ = some (.string x.2.2)) :
    Calls Try.prog 4 #[.int .i64 base, .int .i64 n, .slice p lo.length cap] w fun e w' => e = .returned (.bool true) ∧ Below w.heap.size w w' := by
  by_cases hr : 1 ≤ n ∧ n ≤ 200 ∧ 0 ≤ base ∧ base + n ≤ 250
  · obtain ⟨h1, h2, h3, h4⟩ := hr
    obtain ⟨b, rfl⟩ := Int.eq_ofNat_of_zero_le h3
    obtain ⟨m, rfl⟩ := Int.eq_ofNat_of_zero_le (by omega : 0 ≤ n)
    exact (tells_right w b m (by omega) (by omega) (by omega) p cap lo g off hp hlc hmax hcell).mono fun _ _ ⟨he, hc⟩ => ⟨he, hc.below⟩
  · exact (tells_not w base n (.slice p lo.length cap) (by omega)).mono fun _ _ ⟨he, hc⟩ => ⟨he, hc.below⟩
theorem addr_add (g off n : Nat) : (⟨g, off, none⟩ : Addr).add n = ⟨g, off + n, none⟩ := by
  unfold Addr.add
  split
  · subst_vars; rfl
  · rfl

/-! ### THE ROW's STEP: WRITTEN OUT: LEAVE IT -/
set_option maxRecDepth 100000 in
theorem lifted (os : Os) (started : os.Started) (H : Type) (enc : TypeId × Value → H) :
    ReturnsInHanded {} Try.checked os 4 .any (Rows.tableTellsSpec.pre6 enc Try.prog Try.f4 Rows.tableTellsRow.domain false) (Rows.tableTellsSpec.post enc Try.prog Try.f4 false true false false) := by
  refine returnsInHanded_of_change (C := Try.checked) own started (by kernel_rfl) Try.func4
    (ChangeSpec.witness6 (enc := enc) (C := Try.checked) false ⟨#[], #[.int .i64 0, .int .i64 0, .slice none 0 0], []⟩ 8 (by kernel_rfl) (by kernel_rfl) (by kernel_rfl) (by kernel_rfl)) ?_
  intro W base args ds gs before hval0 hW hcnd _
  have hval : ∀ (j : Nat) t v, Try.f4.params[j]? = some t → args[j]? = some v → Value.okWide Try.prog W .any base t v := hval0
  have hW' := hW
  obtain ⟨p, q, hA0, hV, rfl, hfz, hnd⟩ := hW
  have hA : DataW.TrodAll enc Try.prog W 0 (fun _ => true) true Try.f4.params.toList args.toList ds p := hA0
  rw [Try.params4] at hA hval
  obtain ⟨va, vb, v0, da, db, d0, pa, pb, p0, rfl, rfl, rfl, ha, hb, h0⟩ := trodAll_three hA
  obtain ⟨rfl, rfl⟩ := trodVars_none hV
  have hak := ha
  have hbk := hb
  obtain ⟨base, rfl⟩ := okWide_int Try.underlying3 (hval 0 3 va rfl rfl)
  obtain ⟨n, rfl⟩ := okWide_int Try.underlying3 (hval 1 3 vb rfl rfl)
  have h0k := h0
  obtain ⟨fuel, hf⟩ := h0
  clear hA0 hval0
  simp only [List.append_nil] at hW'
  have hlt : ∀ x ∈ pa ++ pb ++ p0, x.block < W.heap.size := fun x hx => by simpa using hW'.lt x hx
  have hargs : ∀ W', Below W.heap.size W W' → DataW.Trod enc Try.prog W' 0 (fun b => decide (b < W.heap.size)) true 41 v0 d0 p0 := fun W' hb' =>
    Below.trod laidOut (by kernel_rfl) (of_decide_eq_true (by kernel_rfl)) h0k hb' (fun x hx => hlt x (by simp [hx]))
  have hargA : ∀ W', Below W.heap.size W W' → DataW.Trod enc Try.prog W' 0 (fun b => decide (b < W.heap.size)) true 3 (.int .i64 base) da pa := fun W' hb' =>
    Below.trod laidOut (by kernel_rfl) (of_decide_eq_true (by kernel_rfl)) hak hb' (fun x hx => hlt x (by simp [hx]))
  have hargB : ∀ W', Below W.heap.size W W' → DataW.Trod enc Try.prog W' 0 (fun b => decide (b < W.heap.size)) true 3 (.int .i64 n) db pb := fun W' hb' =>
    Below.trod laidOut (by kernel_rfl) (of_decide_eq_true (by kernel_rfl)) hbk hb' (fun x hx => hlt x (by simp [hx]))
  have key : Calls Try.prog 4 #[.int .i64 base, .int .i64 n, v0] W fun e W' => e = .returned (.bool true) ∧ Below W.heap.size W W' := by
    obtain ⟨a0, len, cap, rfl⟩ := okWide_slice Try.underlying41 (hval 2 41 v0 rfl rfl)
    rcases open_slice_fields Try.underlying41 Try.underlying46 (by kernel_rfl) (by kernel_rfl) hf with ⟨hcs, hx⟩ | ⟨a, len', cap', m, D, Pl, hcs, hb, hl, hmax, hm, hx, hi⟩
    · simp [Value.cells] at hcs
      obtain ⟨rfl, rfl, rfl⟩ := hcs
      exact walk W base n none 0 [] 0 0 (by simp) (by simp) (by omega) (by simp)
    · simp [Value.cells] at hcs
      obtain ⟨rfl, rfl, rfl⟩ := hcs
      have hml : len ≤ m := by rw [hm]; split <;> omega
      have hcl : ∀ i, ∃ x : OpV, i < len → W.cell? (a.add (i * 3)) = some (.int .i64 x.1) ∧ W.cell? (a.add (i * 3 + 1)) = some (.string x.2.1) ∧ W.cell? (a.add (i * 3 + 2)) = some (.string x.2.2) := by
        intro i
        by_cases hil : i < len
        · obtain ⟨ys, n, _, _, _, hff⟩ := hi i (by omega)
          obtain ⟨v1, y1, c1, _, t1⟩ := hff 0 _ rfl
          obtain ⟨v2, y2, c2, _, t2⟩ := hff 1 _ rfl
          obtain ⟨v3, y3, c3, _, t3⟩ := hff 2 _ rfl
          obtain ⟨x1, e1, _⟩ := DataW.trod_int Try.underlying3 t1
          obtain ⟨x2, e2, _⟩ := DataW.trod_string Try.underlying9 t2
          obtain ⟨x3, e3, _⟩ := DataW.trod_string Try.underlying9 t3
          simp only [List.cons.injEq, and_true] at e1 e2 e3
          subst e1 e2 e3
          exact ⟨(x1, x2, x3), fun _ => ⟨c1, c2, c3⟩⟩
        · exact ⟨(0, .empty, .empty), fun h => absurd h hil⟩
      have hlen : ((List.range len).map fun i => Classical.choose (hcl i)).length = len := by simp
      have hspot : 0 < len → a.spot = none := fun h => by
        have := (Classical.choose_spec (hcl 0) h).1
        simpa [Addr.add] using World.cell?_spot this
      have := walk W base n (some a) cap ((List.range len).map fun i => Classical.choose (hcl i)) a.block a.off (fun h => ?_) (by rw [hlen]; exact hl) (by unfold maxLen at hmax; omega) (fun i x hx => ?_)
      · rw [hlen] at this; exact this
      · rw [hlen] at h
        have h1 : 0 < len := by omega
        have := hspot h1
        have h2 := (Classical.choose_spec (hcl 0) h1).1
        refine ⟨by obtain ⟨g, o, sp⟩ := a; simp only at this; subst this; rfl, ?_⟩
        have := World.block_lt_of_cell? _ _ h2
        simpa [Addr.add] using this
      · have h1 : i < len := by have := (List.getElem?_eq_some_iff.1 hx).1; rw [hlen] at this; exact this
        rw [List.getElem?_map, List.getElem?_range h1] at hx
        simp only [Option.map_some, Option.some.injEq] at hx
        have h2 := Classical.choose_spec (hcl i) h1
        rw [hx] at h2
        have hs := hspot (by omega)
        obtain ⟨g, o, sp⟩ := a
        simp only at hs
        subst hs
        simp only [addr_add] at h2
        exact ⟨h2.1, h2.2.1, h2.2.2⟩
  refine key.mono fun e W' ⟨he, hg⟩ => ?_
  subst he
  rw [List.append_assoc] at hW'
  exact ⟨_, rfl, [_, _, _], _, _, [], _, [], hW', trodAll_mk1 (shut_bool Try.underlying4 _), trodAll_mk3 (hargA W' hg) (hargB W' hg) (hargs W' hg), rfl, hg.frame _, fun h => by cases h⟩

theorem over : Rows.tableTellsRow.holds Try.pinned (OpenSpec.ofChange Rows.tableTellsSpec) :=
  OpenClaim.holds_of_wide 4 Try.f4 rfl rfl rfl rfl rfl rfl rfl ⟨rfl, rfl, rfl, rfl, rfl⟩ rfl rfl rfl rfl rfl (by kernel_rfl) Try.func4 (by kernel_rfl)
    (of_decide_eq_true (by kernel_rfl)) (by unfold Func.isWrapper; first | (rw [if_pos (by decide +kernel)]; kernel_rfl) | (rw [if_neg (by decide +kernel)]; exact ⟨rfl, rfl⟩))
    (fun os started H enc _ => lifted os started H enc)

/-- ████ THE STATEMENT ████ -/
theorem proved : Rows.TableTellsSaid :=
  over
#print axioms proved
end Go.Proofs.Ytnijdnnnhkdjaaa.tableTells
