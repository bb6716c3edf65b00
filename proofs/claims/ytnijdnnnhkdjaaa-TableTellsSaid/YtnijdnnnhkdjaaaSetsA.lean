/- The sets of a transaction (layer 15) at entries, without scopes: what lies in memory, and the contracts. -/
import Derived.Test.YtnijdnnnhkdjaaaMemA
import Derived.StillTailTactics
namespace Go.Proofs.Ytnijdnnnhkdjaaa
set_option linter.unusedSimpArgs false
set_option linter.unusedVariables false
open Go Go.RowKit Go.MapKept

def encI (n : Int) : Value := .int .i64 n
/-- Sets lie at bs: what was read in the map br, what is written in the map bw; no scope is open. -/
structure SetsR (w : World) (bs br bw : Nat) (R : List (Int × Int)) (W : List (Int × V)) : Prop where
  hdr : w.heap[bs]? = some (.cells #[.map (some br), .map (some bw), .slice none 0 0, .slice none 0 0] 101 (0, 0))
  reads : mapL w br (vm encI R)
  writes : mapL w bw (vm valV W)
  ne : br ≠ bw

theorem mapL.ne_cells {w : World} {b c : Nat} {L : List (Int × Value)} {cs : Array Value} {t : TypeId} {fz : Nat × Nat} (h : mapL w b L) (hc : w.heap[c]? = some (.cells cs t fz)) : c ≠ b := by
  rintro rfl
  obtain ⟨es, clk, h1, _⟩ := h
  rw [hc] at h1
  simp at h1

theorem SetsR.chg {S : List Nat} {w w' : World} {bs br bw : Nat} {R : List (Int × Int)} {W : List (Int × V)} (h : SetsR w bs br bw R W) (hc : Chg S w w') (h1 : bs ∉ S) (h2 : br ∉ S) (h3 : bw ∉ S) : SetsR w' bs br bw R W :=
  ⟨hc.at h.hdr h1, h.reads.chg hc h2, h.writes.chg hc h3, h.ne⟩

theorem zero_i64 (w : World) : (zeroValue 2).run Try.prog w = .ok (.int .i64 0) w := by kernel_rfl
theorem zero_V (w : World) : (zeroValue 27).run Try.prog w = .ok (valV MC.z.val) w := by kernel_rfl

section
variable {w : World} {bs br bw : Nat} {R : List (Int × Int)} {W : List (Int × V)} (h : SetsR w bs br bw R W)
include h

theorem SetsR.cells : w.cell? ⟨bs, 0, none⟩ = some (.map (some br)) ∧ w.cell? ⟨bs, 1, none⟩ = some (.map (some bw)) ∧ w.cell? ⟨bs, 2, none⟩ = some (.slice none 0 0) ∧ w.cell? ⟨bs, 3, none⟩ = some (.slice none 0 0) ∧ bs < w.heap.size :=
  ⟨cellAt h.hdr 0, cellAt h.hdr 1, cellAt h.hdr 2, cellAt h.hdr 3, lt_of_blk h.hdr⟩

set_option maxHeartbeats 400000 in
theorem sright_any : Calls Try.prog 52 #[.pointer (some ⟨bs, 0, none⟩)] w fun e w' => e = .returned (.bool true) ∧ w = w' := by
  obtain ⟨c0, c1, c2, c3, hl⟩ := h.cells
  have hq := run_neq_map_nil (P := Try.prog) w 96 _ _ (some br) Try.underlying96
  go_enter Try.func52, Try.ntmps52
  go_wp2
  go_ret
  exact ⟨rfl, rfl⟩

set_option maxHeartbeats 400000 in
theorem smay_ok (i : Int) (h0 : 0 ≤ i) (h1 : i < 1024) : Calls Try.prog 56 #[.pointer (some ⟨bs, 0, none⟩), .int .i64 i] w fun e w' => e = .returned (.int .i64 0) ∧ w = w' := by
  go_enter Try.func56, Try.ntmps56
  go_wp2_with (go_at_call 52; refine (sright_any h).mono ?_; rintro e w' ⟨rfl, rfl⟩)
  go_ret
  exact ⟨rfl, rfl⟩

set_option maxHeartbeats 400000 in
theorem value_any (i : Int) : Calls Try.prog 37 #[.pointer (some ⟨bs, 0, none⟩), .int .i64 i] w fun e w' =>
    e = .returned (.tuple #[valV ((lookK i W).getD MC.z.val), .bool (lookK i W).isSome]) ∧ Chg [] w w' := by
  obtain ⟨c0, c1, c2, c3, hl⟩ := h.cells
  have hw := h.writes
  have hr := run_lookup_ok Try.underlying97 Try.underlying3 bw (vm valV W) _ zero_V
  simp only [getK, hasK, lookK_vm] at hr
  cases hl : lookK i W with
  | none =>
    have hr2 : ∀ w', mapL w' bw (vm valV W) → (Instr.lookup 97 (.map (some bw)) (.int .i64 i) true).run Try.prog w' = .ok (.tuple #[.agg #[.bool false, .string .empty, .string .empty], .bool false]) w' := fun w' hm => by
      have := hr w' i hm; rw [hl] at this; exact this
    clear hr
    go_enter Try.func37, Try.ntmps37
    go_wp2_with (go_at_call 52; refine (sright_any (h.chg ((Chg.refl [] _).alloc _) (by simp) (by simp) (by simp))).mono ?_; rintro e w' ⟨rfl, rfl⟩)
    refine bodyPost_ret (v := .tuple #[valV MC.z.val, .bool false]) (by simp [results, Try.results37, go_sem, valV, MC.z]) rfl ⟨rfl, ?_⟩
    repeat (first | exact Chg.refl _ _ | assumption | refine Chg.drew ?_ | refine Chg.drewN ?_ _ | refine Chg.alloc ?_ _ | refine Chg.setCell ?_ _ _ (by first | (left; simp; done) | (right; simp)))
  | some v =>
    have hr2 : ∀ w', mapL w' bw (vm valV W) → (Instr.lookup 97 (.map (some bw)) (.int .i64 i) true).run Try.prog w' = .ok (.tuple #[.agg #[.bool v.1, .string v.2.1, .string v.2.2], .bool true]) w' := fun w' hm => by
      have := hr w' i hm; rw [hl] at this; exact this
    clear hr
    go_enter Try.func37, Try.ntmps37
    go_wp2_with (go_at_call 52; refine (sright_any (h.chg ((Chg.refl [] _).alloc _) (by simp) (by simp) (by simp))).mono ?_; rintro e w' ⟨rfl, rfl⟩)
    refine bodyPost_ret (v := .tuple #[valV v, .bool true]) (by simp [results, Try.results37, go_sem, valV]) rfl ⟨rfl, ?_⟩
    repeat (first | exact Chg.refl _ _ | assumption | refine Chg.drew ?_ | refine Chg.drewN ?_ _ | refine Chg.alloc ?_ _ | refine Chg.setCell ?_ _ _ (by first | (left; simp; done) | (right; simp)))

set_option maxHeartbeats 400000 in
theorem seen_any (i : Int) : Calls Try.prog 39 #[.pointer (some ⟨bs, 0, none⟩), .int .i64 i] w fun e w' =>
    e = .returned (.tuple #[.int .i64 ((lookK i R).getD 0), .bool (lookK i R).isSome]) ∧ w = w' := by
  obtain ⟨c0, c1, c2, c3, hl⟩ := h.cells
  have hw := h.reads
  have hr := run_lookup_ok Try.underlying96 Try.underlying3 br (vm encI R) _ zero_i64
  simp only [getK, hasK, lookK_vm] at hr
  have hr2 : ∀ w', mapL w' br (vm encI R) → (Instr.lookup 96 (.map (some br)) (.int .i64 i) true).run Try.prog w' = .ok (.tuple #[.int .i64 ((lookK i R).getD 0), .bool (lookK i R).isSome]) w' := fun w' hm => by
    have := hr w' i hm; rw [this]; cases lookK i R <;> rfl
  clear hr
  go_enter Try.func39, Try.ntmps39
  go_wp2_with (go_at_call 52; refine (sright_any h).mono ?_; rintro e w' ⟨rfl, rfl⟩)
  go_ret2
  exact ⟨rfl, rfl⟩

set_option maxHeartbeats 400000 in
theorem read_new (i v : Int) (h0 : 0 ≤ i) (h1 : i < 1024) (hv : 0 ≤ v) (hl : lookK i R = none) (hn : R.length < 256) : Calls Try.prog 41 #[.pointer (some ⟨bs, 0, none⟩), .int .i64 i, .int .i64 v] w fun e w' =>
    e = .returned (.int .i64 0) ∧ Chg [br] w w' ∧ SetsR w' bs br bw (putK i v R) W := by
  obtain ⟨c0, c1, c2, c3, hlt⟩ := h.cells
  have hw := h.reads
  have hr := run_lookup_ok Try.underlying96 Try.underlying3 br (vm encI R) _ zero_i64
  simp only [getK, hasK, lookK_vm] at hr
  have hr2 : ∀ w', mapL w' br (vm encI R) → (Instr.lookup 96 (.map (some br)) (.int .i64 i) true).run Try.prog w' = .ok (.tuple #[.int .i64 0, .bool false]) w' := fun w' hm => by
    have := hr w' i hm; rw [this, hl]; rfl
  clear hr
  have hlen := run_lenMap Try.underlying96 br (vm encI R) 3
  simp only [length_vm] at hlen
  have e1 : ((R.length : Int) == 256) = false := beq_eq_false_iff_ne.2 (by omega)
  have e2 : ¬ v < 0 := by omega
  have H := Lib.hid h
  clear h
  go_enter Try.func41, Try.ntmps41
  go_wp2_with (first | (go_at_call 56; refine (smay_ok H.out i h0 h1).mono ?_; rintro e w' ⟨rfl, rfl⟩) | (at_mapUpdate; refine wp_put _ rfl _ _ _ 96 rfl _ _ Try.underlying96 Try.underlying3 br (vm encI R) i (encI v) rfl rfl rfl hw ?_; intro w1 hm1 hc1 hs1))
  go_ret
  refine ⟨rfl, hc1, ?_⟩
  have h := H.out
  exact ⟨hc1.at h.hdr (by simpa using hw.ne_cells h.hdr), by rw [← putK_vm]; exact hm1, h.writes.chg hc1 (by simpa using fun e => h.ne e.symm), h.ne⟩

set_option maxHeartbeats 400000 in
theorem read_old (i v : Int) (h0 : 0 ≤ i) (h1 : i < 1024) (hv : 0 ≤ v) (hl : lookK i R = some v) : Calls Try.prog 41 #[.pointer (some ⟨bs, 0, none⟩), .int .i64 i, .int .i64 v] w fun e w' =>
    e = .returned (.int .i64 0) ∧ Chg [br] w w' ∧ SetsR w' bs br bw (putK i v R) W := by
  obtain ⟨c0, c1, c2, c3, hlt⟩ := h.cells
  have hw := h.reads
  have hr := run_lookup_ok Try.underlying96 Try.underlying3 br (vm encI R) _ zero_i64
  simp only [getK, hasK, lookK_vm] at hr
  have hr2 : ∀ w', mapL w' br (vm encI R) → (Instr.lookup 96 (.map (some br)) (.int .i64 i) true).run Try.prog w' = .ok (.tuple #[.int .i64 v, .bool true]) w' := fun w' hm => by
    have := hr w' i hm; rw [this, hl]; rfl
  clear hr
  have e2 : ¬ v < 0 := by omega
  have H := Lib.hid h
  clear h hl
  go_enter Try.func41, Try.ntmps41
  go_wp2_with (first | (go_at_call 56; refine (smay_ok H.out i h0 h1).mono ?_; rintro e w' ⟨rfl, rfl⟩) | (at_mapUpdate; refine wp_put _ rfl _ _ _ 96 rfl _ _ Try.underlying96 Try.underlying3 br (vm encI R) i (encI v) rfl rfl rfl hw ?_; intro w1 hm1 hc1 hs1))
  go_ret
  refine ⟨rfl, hc1, ?_⟩
  have h := H.out
  exact ⟨hc1.at h.hdr (by simpa using hw.ne_cells h.hdr), by rw [← putK_vm]; exact hm1, h.writes.chg hc1 (by simpa using fun e => h.ne e.symm), h.ne⟩

set_option maxRecDepth 100000 in
set_option maxHeartbeats 400000 in
theorem write_new (i : Int) (v : V) (h0 : 0 ≤ i) (h1 : i < 1024) (hl : lookK i W = none) (hn : W.length < 256) : Calls Try.prog 42 #[.pointer (some ⟨bs, 0, none⟩), .int .i64 i, valV v] w fun e w' =>
    e = .returned (.int .i64 0) ∧ Chg [bw] w w' ∧ SetsR w' bs br bw R (putK i v W) := by
  obtain ⟨c0, c1, c2, c3, hlt⟩ := h.cells
  have hw := h.writes
  have hr := run_lookup_ok Try.underlying97 Try.underlying3 bw (vm valV W) _ zero_V
  simp only [getK, hasK, lookK_vm] at hr
  have hr2 : ∀ w', mapL w' bw (vm valV W) → (Instr.lookup 97 (.map (some bw)) (.int .i64 i) true).run Try.prog w' = .ok (.tuple #[.agg #[.bool false, .string .empty, .string .empty], .bool false]) w' := fun w' hm => by
    have := hr w' i hm; rw [hl] at this; exact this
  clear hr
  have hlen := run_lenMap Try.underlying97 bw (vm valV W) 3
  simp only [length_vm] at hlen
  have e1 : ((W.length : Int) == 256) = false := beq_eq_false_iff_ne.2 (by omega)
  have H := Lib.hid h
  clear h
  have hput := run_put Try.underlying97 Try.underlying3 bw (vm valV W)
  unfold valV
  go_enter Try.func42, Try.ntmps42
  go_wp2_with (go_at_call 56; refine (smay_ok (H.out.chg ((Chg.refl [] _).alloc _) (by simp) (by simp) (by simp)) i h0 h1).mono ?_; rintro e w' ⟨rfl, rfl⟩)
  go_region
  all_goals go_wp2
  go_ret
  obtain ⟨g1, g2, g3⟩ := putW_facts Try.underlying97 Try.underlying3 bw (vm valV W) (w := ((w.alloc _).alloc _).drew) i (valV v) (by go_simp)
  have h := H.out
  have hc := ((Chg.refl [bw] w).alloc _ |>.alloc _ |>.drew |>.trans g2)
  exact ⟨rfl, hc, hc.at h.hdr (by simpa using hw.ne_cells h.hdr), h.reads.chg hc (by simpa using h.ne), by rw [← putK_vm]; exact g1, h.ne⟩

set_option maxRecDepth 100000 in
set_option maxHeartbeats 400000 in
theorem write_old (i : Int) (v u : V) (h0 : 0 ≤ i) (h1 : i < 1024) (hl : lookK i W = some u) : Calls Try.prog 42 #[.pointer (some ⟨bs, 0, none⟩), .int .i64 i, valV v] w fun e w' =>
    e = .returned (.int .i64 0) ∧ Chg [bw] w w' ∧ SetsR w' bs br bw R (putK i v W) := by
  obtain ⟨c0, c1, c2, c3, hlt⟩ := h.cells
  have hw := h.writes
  have hr := run_lookup_ok Try.underlying97 Try.underlying3 bw (vm valV W) _ zero_V
  simp only [getK, hasK, lookK_vm] at hr
  have hr2 : ∀ w', mapL w' bw (vm valV W) → (Instr.lookup 97 (.map (some bw)) (.int .i64 i) true).run Try.prog w' = .ok (.tuple #[.agg #[.bool u.1, .string u.2.1, .string u.2.2], .bool true]) w' := fun w' hm => by
    have := hr w' i hm; rw [hl] at this; exact this
  clear hr hl
  have H := Lib.hid h
  clear h
  have hput := run_put Try.underlying97 Try.underlying3 bw (vm valV W)
  unfold valV
  go_enter Try.func42, Try.ntmps42
  go_wp2_with (go_at_call 56; refine (smay_ok (H.out.chg ((Chg.refl [] _).alloc _) (by simp) (by simp) (by simp)) i h0 h1).mono ?_; rintro e w' ⟨rfl, rfl⟩)
  go_region
  all_goals go_wp2
  go_ret
  obtain ⟨g1, g2, g3⟩ := putW_facts Try.underlying97 Try.underlying3 bw (vm valV W) (w := ((w.alloc _).alloc _).drew) i (valV v) (by go_simp)
  have h := H.out
  have hc := ((Chg.refl [bw] w).alloc _ |>.alloc _ |>.drew |>.trans g2)
  exact ⟨rfl, hc, hc.at h.hdr (by simpa using hw.ne_cells h.hdr), h.reads.chg hc (by simpa using h.ne), by rw [← putK_vm]; exact g1, h.ne⟩

omit h in
set_option maxHeartbeats 400000 in
theorem snew_any {w : World} : Calls Try.prog 27 #[] w fun e w' => ∃ bs br bw, e = .returned (.pointer (some ⟨bs, 0, none⟩)) ∧ Chg [] w w' ∧ SetsR w' bs br bw [] [] ∧ w.heap.size ≤ bs ∧ w.heap.size ≤ br ∧ w.heap.size ≤ bw := by
  have hmm := @run_makeMap Try.prog
  go_enter Try.func27, Try.ntmps27
  go_wp2
  go_ret
  refine ⟨w.heap.size + 2, w.heap.size, w.heap.size + 1, rfl, ?_, ⟨?_, ?_, ?_, by omega⟩, by omega, by omega, by omega⟩
  · repeat (first | exact Chg.refl _ _ | refine Chg.alloc ?_ _)
  · have := blk_new ((w.alloc (.map #[] 0)).alloc (.map #[] 0)) (.cells #[.map (some w.heap.size), .map (some (w.heap.size + 1)), .slice none 0 0, .slice none 0 0] 101)
    simpa using this
  · exact mapL_alloc2 (mapL_new w) _ _
  · have := mapL_alloc (mapL_new (w.alloc (.map #[] 0))) (.cells #[.map (some w.heap.size), .map (some (w.heap.size + 1)), .slice none 0 0, .slice none 0 0] 101)
    simpa [vm] using this
end
end Go.Proofs.Ytnijdnnnhkdjaaa
