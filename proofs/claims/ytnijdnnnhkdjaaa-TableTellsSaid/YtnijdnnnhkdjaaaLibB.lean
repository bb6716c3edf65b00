/- The contracts of slices.Delete and slices.DeleteFunc at entries. -/
import Derived.Test.YtnijdnnnhkdjaaaLibA
namespace Go.Proofs.Ytnijdnnnhkdjaaa
set_option linter.unusedSimpArgs false
set_option linter.unusedVariables false
open Go Go.RowKit Go.MapKept

theorem info_V : (Try.prog.info? 27).map (fun i => (i.zero, i.size, i.bytes)) = some (some (valV MC.z.val), 3, 40) := by kernel_rfl
theorem one_V {l : List V} : ∀ u ∈ l.flatMap encV, u.oneCell' = true := by
  intro u hu
  obtain ⟨x, _, hx⟩ := List.mem_flatMap.1 hu
  simp only [encV, List.mem_cons, List.not_mem_nil, or_false] at hx
  rcases hx with rfl | rfl | rfl <;> rfl
theorem one_Z : ∀ u ∈ (valV MC.z.val).cells, u.oneCell' = true := by
  intro u hu
  simp [valV, Value.cells] at hu
  rcases hu with rfl | rfl | rfl <;> rfl
theorem take_flat (l : List V) (k : Nat) : (l.flatMap encV).take (k * 3) = (l.take k).flatMap encV := by
  induction l generalizing k with
  | nil => simp
  | cons x r ih =>
    cases k with
    | zero => simp
    | succ k =>
      have hl : (encV x).length = 3 := rfl
      simp only [List.take_succ_cons, List.flatMap_cons]
      rw [show (k + 1) * 3 = (encV x).length + k * 3 by rw [hl]; omega, List.take_append, List.take_of_length_le (by omega), Nat.add_sub_cancel_left, ih]
theorem drop_flat (l : List V) (k : Nat) : (l.flatMap encV).drop (k * 3) = (l.drop k).flatMap encV := by
  induction l generalizing k with
  | nil => simp
  | cons x r ih =>
    cases k with
    | zero => simp
    | succ k =>
      have hl : (encV x).length = 3 := rfl
      simp only [List.drop_succ_cons, List.flatMap_cons]
      rw [show (k + 1) * 3 = (encV x).length + k * 3 by rw [hl]; omega, List.drop_append, List.drop_of_length_le (by omega), Nat.add_sub_cancel_left, ih, List.nil_append]
theorem length_flat (l : List V) : (l.flatMap encV).length = l.length * 3 := by
  induction l with
  | nil => rfl
  | cons x r ih => have hl : (encV x).length = 3 := rfl; rw [List.flatMap_cons, List.length_append, ih, hl, List.length_cons]; omega
/-- A slice over a block that is known whole. -/
theorem Sl.mk {w : World} {base g cap : Nat} {cur : List Value} {l : List V} (hb : base ≤ g) (h : w.heap[g]? = some (.cells cur.toArray 27 (0, 0))) (hl : l.length ≤ cap) (hm : cap ≤ maxLen) (hs : cur.length = cap * 3) (hp : cur.take (l.length * 3) = l.flatMap encV) :
    Sl w base (.slice (some ⟨g, 0, none⟩) l.length cap) l :=
  ⟨length_flat l, .inr ⟨g, cap, cur.toArray, rfl, hb, h, hl, hm, by simpa using hs, by simpa using hp⟩⟩

set_option maxRecDepth 100000 in
set_option maxHeartbeats 800000 in
theorem del_any {w : World} {base : Nat} {v : Value} {l : List V} (h : Sl w base v l) (i : Nat) (hi : i < l.length) (hl : l.length ≤ 1000) :
    Calls Try.prog 35 #[v, .int .i64 i, .int .i64 (i + 1)] w fun e w' => ∃ v', e = .returned v' ∧ Sl w' base v' (l.eraseIdx i) ∧ v'.ownBlock = v.ownBlock ∧ ∃ g, v.ownBlock = some g ∧ Chg [g] w w' := by
  rcases h.2 with ⟨_, h0⟩ | ⟨g, cap, cur, rfl, h2, h3, h4, h5, h6, h7⟩
  · omega
  · have h5' := h5
    unfold maxLen at h5
    obtain ⟨i0, hi0, hz0, hz1, hz2⟩ := info_parts info_V
    have e1 : ((i : Int) == (i : Int) + 1) = false := beq_eq_false_iff_ne.2 (by omega)
    let news := (l.drop (i + 1)).flatMap encV
    have hnl : news.length = (l.length - (i + 1)) * 3 := by simp only [news, length_flat, List.length_drop]
    have h3d : w.drew.heap[g]? = some (.cells cur 27 (0, 0)) := h3
    have hsrc : ∀ a, (a = (⟨g, (i + 1) * 3, none⟩ : Addr) ∨ news = []) → ∀ j u, news[j]? = some u → w.drew.cell? (a.add j) = some u := by
      intro a ha j u hu
      rcases ha with rfl | ha
      · have hadd : (⟨g, (i + 1) * 3, none⟩ : Addr).add j = ⟨g, (i + 1) * 3 + j, none⟩ := by unfold Addr.add; split <;> simp_all
        rw [hadd, cellAt h3d]
        have hj : j < news.length := (List.getElem?_eq_some_iff.1 hu).1
        have e : (l.flatMap encV)[(i + 1) * 3 + j]? = some u := by
          rw [← List.getElem?_drop, drop_flat]; exact hu
        rw [← h7, List.getElem?_take, if_pos (by omega)] at e
        simpa using e
      · rw [ha] at hu; simp at hu
    let cs1 := (cur.toList.take (i * 3) ++ news ++ cur.toList.drop (i * 3 + news.length))
    have hl1 : cs1.length = cap * 3 := by simp [cs1, hnl, h6]; omega
    have hap : ∀ ty, (Builtin.append_ #[35, 35] ty #[.slice (some ⟨g, 0, none⟩) i cap, .slice (if cap = i + 1 then some ⟨g, 0, none⟩ else some ⟨g, (i + 1) * 3, none⟩) (l.length - (i + 1)) (cap - (i + 1))]).run Try.prog w.drew = .ok (.slice (some ⟨g, 0, none⟩) (l.length - 1) cap) (w.drew.setRow g cs1.toArray) := by
      intro ty
      have hgen : ∀ a, (a = (⟨g, (i + 1) * 3, none⟩ : Addr) ∨ news = []) → (Builtin.append_ #[35, 35] ty #[.slice (some ⟨g, 0, none⟩) i cap, .slice (some a) (l.length - (i + 1)) (cap - (i + 1))]).run Try.prog w.drew = .ok (.slice (some ⟨g, 0, none⟩) (l.length - 1) cap) (w.drew.setRow g cs1.toArray) := by
        intro a ha
        refine run_append_row ty Try.underlying35 hi0 h3d a (l.length - (i + 1)) (cap - (i + 1)) news (by rw [hz1]; exact hnl) (hsrc a ha) one_V (by omega) (by rw [hz1, hnl, h6]; omega) _ (by omega) _ (by simp only [cs1, hz1])
      split
      · refine hgen _ (.inr ?_)
        apply List.eq_nil_of_length_eq_zero
        rw [hnl]; omega
      · exact hgen _ (.inl rfl)
    have hrow1 : (w.drew.setRow g cs1.toArray).heap[g]? = some (.cells cs1.toArray 27 (0, 0)) := row_new h3d _
    let cs2 := cs1.take ((l.length - 1) * 3) ++ (Builtin.zeroCells (valV MC.z.val).cells 1).toList ++ cs1.drop ((l.length - 1) * 3 + 1 * 3)
    have hcl : ∀ ty c, (Builtin.clear_ #[35] ty #[.slice (some ⟨g, (l.length - 1) * 3, none⟩) (l.length - (l.length - 1)) c]).run Try.prog (w.drew.setRow g cs1.toArray) = .ok (.tuple #[]) ((w.drew.setRow g cs1.toArray).setRow g cs2.toArray) := by
      intro ty c
      rw [show l.length - (l.length - 1) = 1 by omega]
      have := run_clear_row (m := 1) (o := (l.length - 1) * 3) (c := c) ty Try.underlying35 (valV MC.z.val) zero_V (by simp [valV, Value.cells]) one_Z hrow1 (by omega) (by simp [valV, Value.cells, hl1]; omega)
      simpa [cs2, valV, Value.cells] using this
    have HF : ∃ v', v' = Value.slice (some ⟨g, 0, none⟩) (l.length - 1) cap ∧ Sl ((w.drew.setRow g cs1.toArray).setRow g cs2.toArray) base v' (l.eraseIdx i) := by
      have hle : (l.eraseIdx i).length = l.length - 1 := by rw [List.length_eraseIdx]; simp [hi]
      refine ⟨_, rfl, ?_⟩
      rw [← hle]
      refine Sl.mk (cur := cs2) h2 (row_new hrow1 _) (by omega) h5' (by simp [cs2, hl1, valV, Value.cells, Builtin.zeroCells]; omega) ?_
      rw [hle]
      have hc : cs1.take ((l.length - 1) * 3) = (l.eraseIdx i).flatMap encV := by
        have ht : cur.toList.take (i * 3) = (l.take i).flatMap encV := by
          rw [← take_flat, ← h7, List.take_take, Nat.min_eq_left (by omega)]
        simp only [cs1, ht, news]
        rw [← List.flatMap_append, ← List.eraseIdx_eq_take_drop_succ, List.take_append_of_le_length (by rw [length_flat, hle]; omega), List.take_of_length_le (by rw [length_flat, hle]; omega)]
      have : cs2.take ((l.length - 1) * 3) = cs1.take ((l.length - 1) * 3) := by
        simp only [cs2]
        rw [List.append_assoc, List.take_append_of_le_length (by rw [List.length_take, hl1]; omega), List.take_take, Nat.min_self]
      rw [this, hc]
    have hchg : Chg [g] w ((w.drew.setRow g cs1.toArray).setRow g cs2.toArray) := (((Chg.refl [g] w).drew).setRow g _ (by simp)).setRow g _ (by simp)
    have HH := Lib.hid (And.intro HF hchg)
    clear HF hchg hrow1 hl1 hsrc h3d hnl hz2 hz1 hz0 hi0 h7 h6 h3 h h5' h2
    clear_value cs2 cs1 news
    have hic : i ≤ cap := by omega
    have hic2 : i + 1 ≤ l.length := by omega
    have hic3 : (i : Int) + 1 ≤ (l.length : Int) := by omega
    have hic4 : (0 : Int) ≤ (i : Int) + 1 := by omega
    go_enter Try.func35, Try.ntmps35
    go_wp2
    go_region_law (refine step_append_run rfl _ _ 35 rfl _ _ rfl rfl _ _ hap ?_)
    all_goals go_wp2
    all_goals go_ret
    all_goals
      obtain ⟨⟨v', hv', hS⟩, hC⟩ := HH.out
      subst hv'
      first
        | exact ⟨_, rfl, hS, rfl, g, rfl, hC⟩
        | (have hcap : cap = i + 1 := (by assumption); rw [hcap] at hS; exact ⟨_, rfl, hS, rfl, g, rfl, hC⟩)
end Go.Proofs.Ytnijdnnnhkdjaaa
