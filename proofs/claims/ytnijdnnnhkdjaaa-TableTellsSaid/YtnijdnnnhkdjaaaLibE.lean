/- The contract of slices.Insert of one entry, where the slice must grow. -/
import Derived.Test.YtnijdnnnhkdjaaaLibD
namespace Go.Proofs.Ytnijdnnnhkdjaaa
set_option linter.unusedSimpArgs false
set_option linter.unusedVariables false
open Go Go.RowKit Go.MapKept
theorem nextcap_le (n c : Nat) (h : n ≤ 300) (hc : c ≤ 200) : Builtin.nextslicecap n c ≤ 400 := by
  unfold Builtin.nextslicecap
  split
  · omega
  · split <;> omega

set_option maxRecDepth 100000 in
theorem app_zeros {w : World} {g cap : Nat} {cur : List Value} {l : List V} (hg : w.heap[g]? = some (.cells cur.toArray 27 (0, 0))) (hpre : cur.take (l.length * 3) = l.flatMap encV) (hcap : cap ≤ l.length)
    (i : Nat) (hi : i < l.length) (hl : l.length ≤ 200) : ∃ W1 NC C1, (∀ ty, (Builtin.append_ #[35, 3] ty #[.slice (some ⟨g, 0, none⟩) i cap, .int .i64 ((l.length : Int) + 1 - i)]).run Try.prog w = .ok (.slice (some ⟨w.heap.size, 0, none⟩) (l.length + 1) NC) W1) ∧
      W1.heap[w.heap.size]? = some (.cells (List.toArray C1) 27 (0, 0)) ∧ Chg [] w W1 ∧ C1.length = NC * 3 ∧ l.length + 1 ≤ NC ∧ NC ≤ maxLen ∧ C1.take (i * 3) = (l.take i).flatMap encV := by
  obtain ⟨i0, hi0, hz0, hz1, hz2⟩ := info_parts info_V
  have hold : (Builtin.firstCells i0.size i (.slice (some ⟨g, 0, none⟩) i cap)).run Try.prog w.drew = .ok ((l.take i).flatMap encV).toArray w.drew := by
    refine run_firstCells_some (P := Try.prog) w.drew i0.size i ⟨g, 0, none⟩ i cap _ (by rw [length_flat, hz1, List.length_take]; congr 1; omega) ?_
    refine cells_from_row (o := 0) (w := w.drew) hg ?_
    rw [List.drop_zero, ← take_flat, ← hpre, List.take_take]
    congr 1
    simp
    have : (List.flatMap encV l).length = l.length * 3 := length_flat l
    rw [← hpre, List.length_take] at this
    omega
  have hle : ((l.length : Int) + 1 - i) = ((l.length + 1 - i : Nat) : Int) := by omega
  have hnc := nextcap_le (i + (l.length + 1 - i)) cap (by omega) (by omega)
  have hge := grownCap_ge w (i + (l.length + 1 - i)) cap 27
  have hm := grownCap_le_maxLen w (i + (l.length + 1 - i)) cap 27 (by unfold maxLen; omega)
  refine ⟨w.drew.alloc (.cells (((l.take i).flatMap encV).toArray ++ Builtin.zeroCells (valV MC.z.val).cells (l.length + 1 - i) ++ Builtin.zeroCells (valV MC.z.val).cells (grownCap w (i + (l.length + 1 - i)) cap 27 - (i + (l.length + 1 - i)))) 27), grownCap w (i + (l.length + 1 - i)) cap 27, (((l.take i).flatMap encV).toArray ++ Builtin.zeroCells (valV MC.z.val).cells (l.length + 1 - i) ++ Builtin.zeroCells (valV MC.z.val).cells (grownCap w (i + (l.length + 1 - i)) cap 27 - (i + (l.length + 1 - i)))).toList, ?_, ?_, ?_, ?_, ?_, ?_, ?_⟩
  · intro ty
    rw [hle]
    have := Lib.run_append_grow_zeros (P := Try.prog) w 35 3 ty 27 i0 (valV MC.z.val) .i64 .i64 Try.underlying35 Try.underlying3 hi0 hz0 (some ⟨g, 0, none⟩) i cap _ hold (l.length + 1 - i) (by omega) (by omega) (by omega) (by omega) (by rw [hz2]; omega) (by rw [hz2]; omega)
    rw [this]
    congr 2
    omega
  · rw [Array.toArray_toList]
    exact blk_new w.drew _
  · exact ((Chg.refl [] w).drew).alloc _
  · have hz3 : (valV MC.z.val).cells.size = 3 := rfl
    rw [Array.length_toList, Array.size_append, Array.size_append, size_zeroCells, size_zeroCells, List.size_toArray, length_flat, List.length_take, hz3, Nat.min_eq_left (by omega)]
    omega
  · omega
  · exact hm
  · have h3 : ((l.take i).flatMap encV).length = i * 3 := by rw [length_flat, List.length_take]; congr 1; omega
    simp only [Array.toList_append, List.append_assoc]
    rw [List.take_append_of_le_length (by omega), List.take_of_length_le (by omega)]

set_option maxRecDepth 100000 in
set_option maxHeartbeats 1600000 in
theorem ins_grow {w : World} {base g cap : Nat} {cur : List Value} {l : List V} (hb : base ≤ w.heap.size) (hg : w.heap[g]? = some (.cells cur.toArray 27 (0, 0))) (hpre : cur.take (l.length * 3) = l.flatMap encV) (hlc : l.length ≤ cap) (hcap : cap < l.length + 1) (hmax : cap ≤ maxLen)
    (i : Nat) (hi : i < l.length) (x : V) (ax : Nat) (hx : w.heap[ax]? = some (.cells (encV x).toArray 27 (0, 0))) (hl : l.length ≤ 200) :
    Calls Try.prog 32 #[.slice (some ⟨g, 0, none⟩) l.length cap, .int .i64 i, .slice (some ⟨ax, 0, none⟩) 1 1] w fun e w' => ∃ v', e = .returned v' ∧ Sl w' base v' (insAt l i x) ∧ Chg [] w w' := by
  obtain ⟨i0, hi0, hz0, hz1, hz2⟩ := info_parts info_V
  obtain ⟨W1, NC, C1, hap, hb1, hc1, hC1, hNC, hNCm, hpre1⟩ := app_zeros (cap := cap) hg hpre (by omega) i hi hl
  have hNCm' := hNCm
  unfold maxLen at hNCm hmax
  have hglt := lt_of_blk hg
  have hxlt := lt_of_blk hx
  obtain ⟨b2, hb2⟩ : ∃ b2, b2 = w.heap.size := ⟨_, rfl⟩
  rw [← hb2] at hap hb1
  have hx1 : W1.heap[ax]? = some (.cells (encV x).toArray 27 (0, 0)) := hc1.at hx (by simp)
  have hg1 : W1.heap[g]? = some (.cells cur.toArray 27 (0, 0)) := hc1.at hg (by simp)
  let A := (l.drop i).flatMap encV
  have hAl : A.length = (l.length - i) * 3 := by simp only [A, length_flat, List.length_drop]
  let C2 := ovw C1 (i * 3) (encV x)
  have hC2 : C2.length = NC * 3 := by simp only [C2]; rw [length_ovw _ _ _ (by simp [encV]; omega), hC1]
  have hcp1 : ∀ ty, (Builtin.copy_ #[35, 35] ty #[.slice (some ⟨b2, i * 3, none⟩) (l.length + 1 - i) (NC - i), .slice (some ⟨ax, 0, none⟩) 1 1]).run Try.prog W1 = .ok (.int .i64 1) (W1.setRow b2 C2.toArray) := by
    intro ty
    have := run_copy_rows (dCap := NC - i) (dLen := l.length + 1 - i) (sLen := 1) (sCap := 1) (o := i * 3) (cur := C1) ty Try.underlying35 hi0 hb1 ⟨ax, 0, none⟩ (encV x) 1 (by simp only [Nat.min_def]; split <;> omega) (by rw [hz1]; rfl) (by
      have := cells_from_row (o := 0) (cs := encV x) hx1 (by simp); simpa using this) (by simp [encV]; omega) (one_enc x)
    simpa using this
  have hb3 : (W1.setRow b2 C2.toArray).drew.heap[b2]? = some (.cells C2.toArray 27 (0, 0)) := row_new hb1 _
  have hg3 : (W1.setRow b2 C2.toArray).drew.heap[g]? = some (.cells cur.toArray 27 (0, 0)) := (row_other _ _ _ _ (by omega)).trans hg1
  let C3 := ovw C2 ((i + 1) * 3) A
  have hC3 : C3.length = NC * 3 := by simp only [C3]; rw [length_ovw _ _ _ (by omega), hC2]
  have hcp2 : ∀ ty, (Builtin.copy_ #[35, 35] ty #[.slice (some ⟨b2, (i + 1) * 3, none⟩) (l.length - i) (NC - (i + 1)), .slice (some ⟨g, i * 3, none⟩) (l.length - i) (cap - i)]).run Try.prog (W1.setRow b2 C2.toArray).drew = .ok (.int .i64 (l.length - i : Nat)) ((W1.setRow b2 C2.toArray).drew.setRow b2 C3.toArray) := by
    intro ty
    refine run_copy_rows (cur := C2) ty Try.underlying35 hi0 hb3 ⟨g, i * 3, none⟩ A (l.length - i) (by simp only [Nat.min_def]; split <;> omega) (by rw [hz1, hAl]) (cells_from_row hg3 ?_) (by omega) one_V
    have : (cur.take (l.length * 3)).drop (i * 3) = A := by rw [hpre, drop_flat]
    rw [List.drop_take] at this
    have hcl : l.length * 3 ≤ cur.length := by
      have e := congrArg List.length hpre
      rw [List.length_take, length_flat] at e
      omega
    rw [← this, List.length_take, List.length_drop, Nat.min_eq_left (by omega)]
  have HF : ∃ v', v' = Value.slice (some ⟨b2, 0, none⟩) (l.length + 1) NC ∧ Sl ((W1.setRow b2 C2.toArray).drew.setRow b2 C3.toArray) base v' (insAt l i x) := by
    refine ⟨_, rfl, ?_⟩
    have hle := length_insAt l i x (by omega)
    rw [← hle]
    refine Sl.mk (cur := C3) (by omega) (row_new hb3 _) (by omega) hNCm' hC3 ?_
    rw [hle, flat_insAt]
    have := ovw_behind C1 (i * 3) A (encV x) (by simp [encV]; omega)
    have e1 : i * 3 + (encV x).length = (i + 1) * 3 := by simp [encV]; omega
    rw [e1, show (i + 1) * 3 + A.length = (l.length + 1) * 3 by omega] at this
    simp only [C3, C2, this, A, hpre1]
  have hchg : Chg [] w ((W1.setRow b2 C2.toArray).drew.setRow b2 C3.toArray) := ((hc1.setRow b2 _ (by right; omega)).drew).setRow b2 _ (by right; omega)
  have HH := Lib.hid (And.intro HF hchg)
  have q1 : ((i : Int) == (l.length : Int)) = false := beq_eq_false_iff_ne.2 (by omega)
  have q2 : (cap : Int) < (l.length : Int) + 1 := by omega
  have q3 : (0 : Int) ≤ (i : Int) + 1 := by omega
  have q4 : (i : Int) + 1 ≤ (l.length : Int) + 1 := by omega
  have q5 : ¬ NC = i + 1 := by omega
  have q6 : ¬ cap = i := by omega
  have q6' : ¬ NC = i := by omega
  have q7 : i ≤ l.length + 1 := by omega
  have q9 : (i : Int) ≤ (l.length : Int) + 1 := by omega
  have q10 : i ≤ cap := by omega
  clear HF hchg hC3 hg3 hb3 hC2 hAl hg1 hx1 hb2 hb1 hc1 hC1 hpre1 hNCm' hz2 hz1 hz0 hi0 hpre hg hx hb
  clear_value C3 C2 A
  go_enter Try.func32, Try.ntmps32
  have HAP := Lib.hid hap
  clear hap
  go_wp2_with (at_builtin; refine Lib.wpList_append_run _ rfl _ _ 35 3 rfl _ _ rfl rfl _ _ (HAP.out _) ?_)
  have r1 : IntKind.i64.wrap ((i : Int) + 1) = (i : Int) + 1 := IntWalk.i64_in _ (by omega)
  have r2 : ((i : Int) + 1).toNat = i + 1 := by omega
  go_region
  all_goals clear r1 r2
  all_goals go_wp2
  all_goals go_ret
  all_goals
    obtain ⟨⟨v', hv', hS⟩, hC⟩ := HH.out
    subst hv'
    exact ⟨_, rfl, hS, hC⟩
end Go.Proofs.Ytnijdnnnhkdjaaa
