/- Making a table over a fresh memory. -/
import Derived.Test.YtnijdnnnhkdjaaaTabF
namespace Go.Proofs.Ytnijdnnnhkdjaaa
set_option linter.unusedSimpArgs false
set_option linter.unusedVariables false
open Go Go.RowKit Go.MapKept

section
variable {w : World} {b : At} {clk : Int} {cs : List MC} {own beg ver : Int} {R : List (Int × Int)} {W : List (Int × V)}

set_option maxRecDepth 100000 in
set_option maxHeartbeats 800000 in
theorem of_ok (h : TxR w b clk cs own beg 1 ver R W) (base n : Int) (h0 : 0 ≤ base) (h1 : 1 ≤ n) (h2 : n ≤ 200) (h3 : base + n ≤ cs.length) (hc : cs.length ≤ 1024) :
    Calls Try.prog 8 #[.pointer (some ⟨b.t, 0, none⟩), .int .i64 base, .int .i64 n] w fun e w' => ∃ bx, e = .returned (.tuple #[.pointer (some ⟨bx, 0, none⟩), .int .i64 0]) ∧ Chg [] w w' ∧ w'.heap[bx]? = some (.cells #[.pointer (some ⟨b.t, 0, none⟩), .int .i64 base, .int .i64 n] 65 (0, 0)) ∧ w.heap.size ≤ bx := by
  have H := Lib.hid h
  have hn : 0 < cs.length := by omega
  clear h
  have e0 : ¬ n < 1 := by omega
  have e1 : ¬ (200 : Int) < n := by omega
  have e2 : ¬ base < 0 := by omega
  have e3 : ¬ (cs.length : Int) - n < base := by omega
  go_enter Try.func8, Try.ntmps8
  go_wp2_with (first | (go_at_call 28; refine (tstatus_any H.out).mono ?_; rintro e w' ⟨rfl, rfl⟩) | (go_at_call 29; refine (tcells_any H.out hn).mono ?_; rintro e w' ⟨rfl, rfl⟩))
  go_ret2
  exact ⟨w.heap.size, rfl, (Chg.refl [] w).alloc _, blk_new _ _, Nat.le_refl _⟩

set_option maxRecDepth 100000 in
set_option maxHeartbeats 800000 in
theorem of_arg (h : TxR w b clk cs own beg 1 ver R W) (base n : Int) (hb : n < 1 ∨ (1 ≤ n ∧ 200 < n) ∨ (1 ≤ n ∧ n ≤ 200 ∧ base < 0) ∨ (1 ≤ n ∧ n ≤ 200 ∧ 0 ≤ base ∧ (cs.length : Int) - n < base)) (hn : 0 < cs.length) (hc : cs.length ≤ 1024) :
    Calls Try.prog 8 #[.pointer (some ⟨b.t, 0, none⟩), .int .i64 base, .int .i64 n] w fun e w' => e = .returned (.tuple #[.pointer none, .int .i64 2]) ∧ Chg [] w w' := by
  have H := Lib.hid h
  clear h
  rcases hb with h1 | ⟨h1, h2⟩ | ⟨h1, h2, h3⟩ | ⟨h1, h2, h3, h4⟩
  all_goals
    go_enter Try.func8, Try.ntmps8
    go_wp2_with (first | (go_at_call 28; refine (tstatus_any H.out).mono ?_; rintro e w' ⟨rfl, rfl⟩) | (go_at_call 29; refine (tcells_any H.out hn).mono ?_; rintro e w' ⟨rfl, rfl⟩))
    go_ret2
    exact ⟨rfl, Chg.refl _ _⟩
end

theorem fresh_tab {w : World} {b : At} {k base n bx : Nat} (h : TxR w b 0 (List.replicate k MC.z) 1 0 1 0 [] []) (hk : k ≤ 256) (ht : TabR w bx b.t base n) (h1 : base + n ≤ k) (h2 : n ≤ 200) : TabIs w b 0 (List.replicate k MC.z) 1 0 0 bx base n [] := by
  refine ⟨⟨[], [], ⟨h, by simpa using hk, ?_, by simp [lookK], by simp, by simp, by simp, by simp⟩, ?_⟩, ht, by simpa using h1, ⟨by simp, by simp⟩, by simp, h2⟩
  · intro i c hc
    rw [List.getElem?_replicate] at hc
    split at hc
    · simp only [Option.some.injEq] at hc; subst hc; exact ⟨rfl, Int.le_refl _, Int.le_refl _⟩
    · simp at hc
  · apply List.ext_getElem?
    intro i
    by_cases hi : i < n
    · have hb : base + i < k := by omega
      simp only [vals, padL, List.getElem?_map, List.getElem?_range hi, Option.map_some, List.length_nil, Nat.sub_zero, List.nil_append, List.getElem?_replicate, if_pos hi]
      simp [curV, lookK, List.getElem?_replicate, hb]
    · have e1 : (vals (List.replicate k MC.z) [] base n)[i]? = none := by simp [vals]; omega
      have e2 : (padL [] n)[i]? = none := by simp [padL]; omega
      rw [e1, e2]

set_option maxRecDepth 100000 in
set_option maxHeartbeats 800000 in
theorem begun_ok (k : Nat) (base n : Nat) (w : World) (h1 : 1 ≤ n) (h2 : n ≤ 200) (h3 : base + n ≤ k) (hk : k ≤ 256) :
    Calls Try.prog 13 #[.int .i64 k, .int .i64 base, .int .i64 n] w fun e w' => ∃ (b : At) (bx : Nat), e = .returned (.tuple #[.pointer (some ⟨b.t, 0, none⟩), .pointer (some ⟨bx, 0, none⟩), .int .i64 0]) ∧ Chg [] w w' ∧ TabIs w' b 0 (List.replicate k MC.z) 1 0 0 bx base n [] ∧
      w.heap.size ≤ b.t ∧ w.heap.size ≤ b.m ∧ w.heap.size ≤ b.c ∧ w.heap.size ≤ b.s ∧ w.heap.size ≤ b.r ∧ w.heap.size ≤ b.w ∧ w.heap.size ≤ bx := by
  have hM := fun w' => mnew_ok (k : Int) w' (by omega) (by omega)
  simp only [Int.toNat_natCast] at hM
  have HM := Lib.hid hM
  clear hM
  go_enter Try.func13, Try.ntmps13
  go_wp2_with (first
    | (go_at_call 6; refine (HM.out _).mono ?_; rintro e w1 ⟨bm, bc, rfl, hc1, hm1, l1, l2⟩; have HM1 := Lib.hid hm1; clear hm1)
    | (go_at_call 7; refine (tbegin_ok HM1.out 1 (by omega) (by simp; omega)).mono ?_; rintro e w2 ⟨b, rfl, hc2, rfl, rfl, ht2, l3, l4, l5, l6⟩; have HT2 := Lib.hid ht2; clear ht2)
    | (go_at_call 8; refine (of_ok HT2.out (base : Int) (n : Int) (by omega) (by omega) (by omega) (by simp; omega) (by simp; omega)).mono ?_; rintro e w3 ⟨bx, rfl, hc3, hx3, l7⟩))
  go_ret3
  have s1 := hc1.size
  have s2 := hc2.size
  exact ⟨b, bx, rfl, (hc1.trans hc2).trans hc3, fresh_tab (HT2.out.chg0 hc3) hk ⟨hx3⟩ h3 h2, by omega, l1, l2, by omega, by omega, by omega, by omega⟩

set_option maxRecDepth 100000 in
set_option maxHeartbeats 800000 in
theorem begun_arg (k : Nat) (base n : Int) (w : World) (hb : n < 1 ∨ (1 ≤ n ∧ 200 < n) ∨ (1 ≤ n ∧ n ≤ 200 ∧ base < 0) ∨ (1 ≤ n ∧ n ≤ 200 ∧ 0 ≤ base ∧ (k : Int) - n < base)) (h0 : 1 ≤ k) (hk : k ≤ 1024) :
    Calls Try.prog 13 #[.int .i64 k, .int .i64 base, .int .i64 n] w fun e w' => ∃ bt : Nat, e = .returned (.tuple #[.pointer (some ⟨bt, 0, none⟩), .pointer none, .int .i64 2]) ∧ Chg [] w w' := by
  have hM := fun w' => mnew_ok (k : Int) w' (by omega) (by omega)
  simp only [Int.toNat_natCast] at hM
  have HM := Lib.hid hM
  have HB := Lib.hid hb
  clear hM hb
  go_enter Try.func13, Try.ntmps13
  go_wp2_with (first
    | (go_at_call 6; refine (HM.out _).mono ?_; rintro e w1 ⟨bm, bc, rfl, hc1, hm1, l1, l2⟩; have HM1 := Lib.hid hm1; clear hm1)
    | (go_at_call 7; refine (tbegin_ok HM1.out 1 (by omega) (by simp; omega)).mono ?_; rintro e w2 ⟨b, rfl, hc2, rfl, rfl, ht2, l3, l4, l5, l6⟩; have HT2 := Lib.hid ht2; clear ht2)
    | (go_at_call 8; refine (of_arg HT2.out base n (by simpa using HB.out) (by simp; omega) (by simp; omega)).mono ?_; rintro e w3 ⟨rfl, hc3⟩))
  go_ret3
  exact ⟨b.t, rfl, (hc1.trans hc2).trans hc3⟩
end Go.Proofs.Ytnijdnnnhkdjaaa
