/- The contract of slices.Insert of one entry. -/
import Derived.Test.YtnijdnnnhkdjaaaLibC
import Derived.Lib.Overlaps
import Derived.Lib.AppendZerosOnto
namespace Go.Proofs.Ytnijdnnnhkdjaaa
set_option linter.unusedSimpArgs false
set_option linter.unusedVariables false
open Go Go.RowKit Go.MapKept

/-- x at place i. -/
def insAt (l : List V) (i : Nat) (x : V) : List V := l.take i ++ x :: l.drop i
theorem flat_insAt (l : List V) (i : Nat) (x : V) : (insAt l i x).flatMap encV = (l.take i).flatMap encV ++ encV x ++ (l.drop i).flatMap encV := by
  simp [insAt]
theorem length_insAt (l : List V) (i : Nat) (x : V) (hi : i ≤ l.length) : (insAt l i x).length = l.length + 1 := by
  simp [insAt]; omega
theorem one_enc (x : V) : ∀ u ∈ encV x, u.oneCell' = true := by
  intro u hu
  simp only [encV, List.mem_cons, List.not_mem_nil, or_false] at hu
  rcases hu with rfl | rfl | rfl <;> rfl

set_option maxRecDepth 100000 in
set_option maxHeartbeats 800000 in
theorem ins_end {w : World} {base : Nat} {v : Value} {l : List V} (h : Sl w base v l) (x : V) (ax : Nat) (hx : w.heap[ax]? = some (.cells (encV x).toArray 27 (0, 0))) (hl : l.length ≤ 200) (hbase : base ≤ w.heap.size) :
    Calls Try.prog 32 #[v, .int .i64 l.length, .slice (some ⟨ax, 0, none⟩) 1 1] w fun e w' => ∃ v', e = .returned v' ∧ Sl w' base v' (insAt l l.length x) ∧ Chg v.ownBlock.toList w w' := by
  obtain ⟨i0, hi0, hz0, hz1, hz2⟩ := info_parts info_V
  have HI := Lib.hid hi0; have HZ0 := Lib.hid hz0; have HZ1 := Lib.hid hz1; have HZ2 := Lib.hid hz2
  clear hi0 hz0 hz1 hz2
  have HO := Lib.hid h
  have hnews : ∀ j u, (encV x)[j]? = some u → w.cell? ((⟨ax, 0, none⟩ : Addr).add j) = some u := by
    have := cells_from_row (o := 0) (cs := encV x) hx (by simp)
    simpa using this
  have HN := Lib.hid hnews
  have HFIN : ∀ v' w', w'.ownsRow base 27 3 v' (l.length + 1) (l.flatMap encV ++ encV x) → w.grownBy w' v.ownBlock → Sl w' base v' (insAt l l.length x) ∧ Chg v.ownBlock.toList w w' := by
    intro v' w' h1 h2
    refine ⟨?_, (Chg.refl _ w).grown h2 (fun k hk => .inl (by simp [hk]))⟩
    unfold Sl
    rw [flat_insAt, length_insAt _ _ _ (Nat.le_refl _)]
    simpa using h1
  have HF := Lib.hid HFIN
  clear hnews HFIN
  rcases h.open with ⟨rfl, rfl⟩ | ⟨g, cap, rfl, hb, hg, hcap, hmax, hcell⟩
  · clear h
    go_enter Try.func32, Try.ntmps32
    go_wp2_with (at_builtin; refine wpList_append_own _ rfl _ _ 35 rfl base 27 i0 _ 3 40 Try.underlying35 HI.out HZ0.out HZ1.out HZ2.out rfl (by decide) _ 0 [] rfl HO.out ⟨ax, 0, none⟩ 1 1 (encV x) rfl rfl HN.out (one_enc x) (by unfold maxLen; omega) (by omega) hbase ?_; intro v1 w1 hown1 hgrow1 _)
    go_ret
    obtain ⟨f1, f2⟩ := HF.out _ _ hown1 hgrow1
    exact ⟨_, rfl, f1, f2⟩
  · clear hcell h
    unfold maxLen at hmax
    go_enter Try.func32, Try.ntmps32
    go_wp2_with (at_builtin; refine wpList_append_own _ rfl _ _ 35 rfl base 27 i0 _ 3 40 Try.underlying35 HI.out HZ0.out HZ1.out HZ2.out rfl (by decide) _ l.length (l.flatMap encV) rfl HO.out ⟨ax, 0, none⟩ 1 1 (encV x) rfl rfl HN.out (one_enc x) (by unfold maxLen; omega) (by omega) hbase ?_; intro v1 w1 hown1 hgrow1 _)
    all_goals go_ret
    all_goals
      obtain ⟨f1, f2⟩ := HF.out _ _ hown1 hgrow1
      exact ⟨_, rfl, f1, f2⟩

theorem callFunc_ovl (w : World) (g ax n c lb cb o : Nat) (hne : ax ≠ g) (tB : TypeId) (kB : Nat) (x : V) (hx : w.heap[ax]? = some (.cells (encV x).toArray 27 (0, 0))) (hb : w.shape? g = some (tB, kB)) (hkB : kB ≠ 0) :
    (callFunc 50 #[.slice (some ⟨ax, 0, none⟩) n c, .slice (some ⟨g, o, none⟩) lb cb]).run Try.prog w = .ok (.value (.bool false)) w := by
  rw [run_callFunc_extern Try.func50 (by kernel_rfl) (by kernel_rfl) (by kernel_rfl) (e := Extern.SlicesOverlaps.overlaps #[35, 35] #[4]) (by kernel_rfl),
    Lib.run_overlaps_apart w 35 4 27 Try.underlying35 3 (by intro w; kernel_rfl) ⟨ax, 0, none⟩ ⟨g, o, none⟩ n c lb cb (by simpa using hne) 27 tB 3 kB (by simp [World.shape?, hx, encV]) hb hkB (freeAt hx 0) (by simp [World.frozen?, hx])]
  rfl

set_option maxRecDepth 100000 in
set_option maxHeartbeats 1600000 in
theorem ins_room {w : World} {base g cap : Nat} {cur : List Value} {l : List V} (hgb : base ≤ g) (hg : w.heap[g]? = some (.cells cur.toArray 27 (0, 0))) (hcl : cur.length = cap * 3) (hpre : cur.take (l.length * 3) = l.flatMap encV) (hcap : l.length + 1 ≤ cap) (hmax : cap ≤ maxLen)
    (i : Nat) (hi : i < l.length) (x : V) (ax : Nat) (hx : w.heap[ax]? = some (.cells (encV x).toArray 27 (0, 0))) (hne : ax ≠ g) (hl : l.length ≤ 200) :
    Calls Try.prog 32 #[.slice (some ⟨g, 0, none⟩) l.length cap, .int .i64 i, .slice (some ⟨ax, 0, none⟩) 1 1] w fun e w' => ∃ v', e = .returned v' ∧ Sl w' base v' (insAt l i x) ∧ Chg [g] w w' := by
  obtain ⟨i0, hi0, hz0, hz1, hz2⟩ := info_parts info_V
  have hm' := hmax
  unfold maxLen at hmax
  let A := (l.drop i).flatMap encV
  have hAl : A.length = (l.length - i) * 3 := by simp only [A, length_flat, List.length_drop]
  have hgd : w.drew.heap[g]? = some (.cells cur.toArray 27 (0, 0)) := hg
  let C1 := ovw cur ((i + 1) * 3) A
  have hC1 : C1.length = cap * 3 := by simp only [C1]; rw [length_ovw _ _ _ (by omega), hcl]
  have hcp1 : ∀ ty dn dc sn sc, l.length - i = Nat.min sn dn → (Builtin.copy_ #[35, 35] ty #[.slice (some ⟨g, (i + 1) * 3, none⟩) dn dc, .slice (some ⟨g, i * 3, none⟩) sn sc]).run Try.prog w.drew = .ok (.int .i64 (l.length - i : Nat)) (w.drew.setRow g C1.toArray) := by
    intro ty dn dc sn sc hmin
    refine run_copy_rows (cur := cur) ty Try.underlying35 hi0 hgd ⟨g, i * 3, none⟩ A (l.length - i) hmin (by rw [hz1, hAl]) (cells_from_row hgd ?_) (by omega) one_V
    have : (cur.take (l.length * 3)).drop (i * 3) = A := by rw [hpre, drop_flat]
    rw [List.drop_take] at this
    rw [← this, List.length_take, List.length_drop, Nat.min_eq_left (by omega)]
  have hg1 : (w.drew.setRow g C1.toArray).heap[g]? = some (.cells C1.toArray 27 (0, 0)) := row_new hgd _
  have hx1 : (w.drew.setRow g C1.toArray).heap[ax]? = some (.cells (encV x).toArray 27 (0, 0)) := by rw [row_other _ _ _ _ hne]; exact hx
  let C2 := ovw C1 (i * 3) (encV x)
  have hC2 : C2.length = cap * 3 := by simp only [C2]; rw [length_ovw _ _ _ (by simp [encV]; omega), hC1]
  have hcp2 : ∀ ty dn dc, 0 < dn → (Builtin.copy_ #[35, 35] ty #[.slice (some ⟨g, i * 3, none⟩) dn dc, .slice (some ⟨ax, 0, none⟩) 1 1]).run Try.prog (w.drew.setRow g C1.toArray) = .ok (.int .i64 1) ((w.drew.setRow g C1.toArray).setRow g C2.toArray) := by
    intro ty dn dc hdn
    have := run_copy_rows (dCap := dc) (dLen := dn) (sLen := 1) (sCap := 1) (o := i * 3) (cur := C1) ty Try.underlying35 hi0 hg1 ⟨ax, 0, none⟩ (encV x) 1 (by simp only [Nat.min_def]; split <;> omega) (by rw [hz1]; rfl) (by
      have := cells_from_row (o := 0) (cs := encV x) hx1 (by simp); simpa using this) (by simp [encV]; omega) (one_enc x)
    simpa using this
  have HCP1 := Lib.hid hcp1
  have HCP2 := Lib.hid hcp2
  have HF : ∃ v', v' = Value.slice (some ⟨g, 0, none⟩) (l.length + 1) cap ∧ Sl ((w.drew.setRow g C1.toArray).setRow g C2.toArray) base v' (insAt l i x) := by
    refine ⟨_, rfl, ?_⟩
    have hle := length_insAt l i x (by omega)
    rw [← hle]
    refine Sl.mk (cur := C2) hgb (row_new hg1 _) (by omega) hm' hC2 ?_
    rw [hle, flat_insAt]
    have := ovw_ahead cur (i * 3) A (encV x) (by simp [encV]; omega)
    have e1 : i * 3 + (encV x).length = (i + 1) * 3 := by simp [encV]; omega
    rw [e1, show (i + 1) * 3 + A.length = (l.length + 1) * 3 by omega] at this
    simp only [C2, C1, this, A]
    congr 2
    rw [← take_flat, ← hpre, List.take_take, Nat.min_eq_left (by omega)]
  have hchg : Chg [g] w ((w.drew.setRow g C1.toArray).setRow g C2.toArray) := (((Chg.refl [g] w).drew).setRow g _ (by simp)).setRow g _ (by simp)
  have HH := Lib.hid (And.intro HF hchg)
  have hov := fun (lb cb : Nat) => callFunc_ovl w g ax 1 1 lb cb ((i + 1) * 3) hne 27 (cap * 3) x hx (by simp [World.shape?, hg, hcl]) (by omega)
  have q1 : ((i : Int) == (l.length : Int)) = false := beq_eq_false_iff_ne.2 (by omega)
  have q2 : ¬ (cap : Int) < (l.length : Int) + 1 := by omega
  have q3 : (0 : Int) ≤ (i : Int) + 1 := by omega
  have q4 : (i : Int) + 1 ≤ (l.length : Int) + 1 := by omega
  have q5 : ¬ cap = i + 1 := by omega
  have q6 : ¬ cap = i := by omega
  have q7 : i ≤ l.length + 1 := by omega
  have q8 : (l.length : Int) + 1 ≤ (cap : Int) := by omega
  have q9 : (i : Int) ≤ (l.length : Int) + 1 := by omega
  clear HF hchg hcp1 hcp2 hC2 hx1 hg1 hC1 hgd hAl hz2 hz1 hz0 hi0 hm' hpre hcl hg hx hgb
  clear_value C2 C1 A
  go_enter Try.func32, Try.ntmps32
  go_wp2
  have r1 : IntKind.i64.wrap ((i : Int) + 1) = (i : Int) + 1 := IntWalk.i64_in _ (by omega)
  have r2 : ((i : Int) + 1).toNat = i + 1 := by omega
  have hx1 : ∀ ty, (Builtin.copy_ #[35, 35] ty #[(.slice (some ⟨g, (i + 1) * 3, none⟩) (l.length - i) (cap - (i + 1))), (.slice (some ⟨g, i * 3, none⟩) (l.length + 1 - i) (cap - i))]).run Try.prog w.drew = .ok (.int .i64 (l.length - i : Nat)) (w.drew.setRow g C1.toArray) := fun ty => HCP1.out ty _ _ _ _ (by simp only [Nat.min_def]; split <;> omega)
  have hx2 : ∀ ty, (Builtin.copy_ #[35, 35] ty #[(.slice (some ⟨g, i * 3, none⟩) (l.length + 1 - i) (cap - i)), .slice (some ⟨ax, 0, none⟩) 1 1]).run Try.prog (w.drew.setRow g C1.toArray) = .ok (.int .i64 1) ((w.drew.setRow g C1.toArray).setRow g C2.toArray) := fun ty => HCP2.out ty _ _ (by omega)
  go_region
  all_goals clear r1 r2
  all_goals go_wp2
  all_goals go_ret
  all_goals
    obtain ⟨⟨v', hv', hS⟩, hC⟩ := HH.out
    subst hv'
    exact ⟨_, rfl, hS, hC⟩
end Go.Proofs.Ytnijdnnnhkdjaaa
