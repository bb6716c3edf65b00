/- What the law TableTells asks of the reference's calls and of lists that are compared. -/
import Derived.Test.YtnijdnnnhkdjaaaRefB
import Derived.Test.YtnijdnnnhkdjaaaTabI
namespace Go.Proofs.Ytnijdnnnhkdjaaa
set_option linter.unusedSimpArgs false
set_option linter.unusedVariables false
open Go Go.RowKit Go.MapKept

theorem rput_any {w : World} {B : Nat} {v : Value} {l : List V} (h : Sp w B v l) (hB : B ≤ w.heap.size) (hr : Rising l) (hl : l.length ≤ 200) (n : Nat) (hn : l.length ≤ n) (key value : ByteArray) :
    Calls Try.prog 14 #[v, .int .i64 n, .string key, .string value] w fun e w' => ∃ v', e = .returned (.tuple #[v', .int .i64 (putE l n key)]) ∧ Chg [] w w' ∧ Sp w' B v' (putL l n key value) := by
  cases hh : hasKey l key with
  | true =>
    obtain ⟨x, hx⟩ : ∃ x, l[posOf l key]? = some x := by
      rcases has_cases l key with ⟨_, _, h3⟩ | ⟨h1, _⟩
      · exact h3
      · rw [hh] at h1; cases h1
    have e1 : putE l n key = 0 := by simp [putE, hh]
    have e2 : putL l n key value = l.set (posOf l key) (x.1, x.2.1, value) := by simp [putL, hh, hx]
    rw [e1, e2]
    exact rput_has h hB hr hl n key value hh x hx
  | false =>
    have e2 : putL l n key value = if l.length = n then l else insAt l (posOf l key) (true, key, value) := by simp [putL, hh]
    rw [e2]
    exact rput_new h hB hr hl n key value hh hn

theorem Sl.setKey {w : World} {base g n cap : Nat} {l : List V} (h : Sl w base (.slice (some ⟨g, 0, none⟩) n cap) l) (p : Nat) (x : V) (key : ByteArray) (hx : l[p]? = some x) :
    Sl (w.setCell ⟨g, p * 3 + 1, none⟩ (.string key)) base (.slice (some ⟨g, 0, none⟩) n cap) (l.set p (x.1, key, x.2.2)) := by
  have hp := (List.getElem?_eq_some_iff.1 hx).1
  have hflat : ∀ (l : List V) (p : Nat), l[p]? = some x → (l.set p (x.1, key, x.2.2)).flatMap encV = (l.flatMap encV).set (p * 3 + 1) (.string key) := by
    intro l
    induction l with
    | nil => intro p hx; simp at hx
    | cons y r ih =>
      intro p hx
      cases p with
      | zero => simp at hx; subst hx; simp [encV]
      | succ p =>
        have hl : (encV y).length = 3 := rfl
        simp only [List.set_cons_succ, List.flatMap_cons]
        rw [ih p (by simpa using hx), List.set_append_right _ _ (by omega), hl, show (p + 1) * 3 + 1 - 3 = p * 3 + 1 by omega]
  rcases h.2 with ⟨hv, _⟩ | ⟨g', cap', cur, hv, h2, h3, h4, h5, h6, h7⟩
  · simp at hv
  · simp only [Value.slice.injEq, Option.some.injEq, Addr.mk.injEq] at hv
    obtain ⟨⟨rfl, _⟩, rfl, rfl⟩ := hv
    refine ⟨length_flat _, .inr ⟨g, cap, _, by rw [List.length_set], h2, blk_setCell h3 _ _, by rw [List.length_set]; exact h4, h5, by simpa using h6, ?_⟩⟩
    rw [hflat l p hx, ← h7, List.length_set]
    simp only [Array.toList_setIfInBounds]
    rw [take_set_lt _ _ _ _ (by omega)]

theorem Sl.at3 {w : World} {base g n cap : Nat} {l : List V} (h : Sl w base (.slice (some ⟨g, 0, none⟩) n cap) l) (i : Nat) (x : V) (hx : l[i]? = some x) :
    w.cell? ⟨g, i * 3, none⟩ = some (.bool x.1) ∧ w.cell? ⟨g, i * 3 + 1, none⟩ = some (.string x.2.1) ∧ w.cell? ⟨g, i * 3 + 2, none⟩ = some (.string x.2.2) ∧ w.frozen? ⟨g, i * 3 + 1, none⟩ = false ∧ g < w.heap.size := by
  rcases h.open with ⟨hv, _⟩ | ⟨g', cap', hv, _, hl, _, _, hc⟩
  · simp at hv
  · simp only [Value.slice.injEq, Option.some.injEq, Addr.mk.injEq] at hv
    obtain ⟨⟨rfl, _⟩, _, rfl⟩ := hv
    obtain ⟨a, b, c, d, e, f⟩ := hc i x hx
    exact ⟨a, b, c, e, hl⟩
theorem Sl.openP {w : World} {base : Nat} {v : Value} {l : List V} (h : Sl w base v l) : ∃ p g cap, v = .slice p l.length cap ∧ (0 < l.length → p = some ⟨g, 0, none⟩) ∧ (p = none ∨ p = some ⟨g, 0, none⟩) ∧ (p = some ⟨g, 0, none⟩ → base ≤ g ∧ g < w.heap.size) ∧ l.length ≤ cap ∧ cap ≤ 9223372036854775807 := by
  rcases h.open with ⟨rfl, rfl⟩ | ⟨g, cap, rfl, h1, h2, h3, h4, _⟩
  · exact ⟨none, 0, 0, rfl, by simp, .inl rfl, by simp, by simp, by omega⟩
  · exact ⟨some ⟨g, 0, none⟩, g, cap, rfl, fun _ => rfl, .inr rfl, fun _ => ⟨h1, h2⟩, h3, by unfold maxLen at h4; omega⟩
theorem Sp.at2 {w : World} {base g n cap : Nat} {l : List V} (h : Sp w base (.slice (some ⟨g, 0, none⟩) n cap) l) (i : Nat) (x : V) (hx : l[i]? = some x) :
    w.cell? ⟨g, i * 2, none⟩ = some (.string x.2.1) ∧ w.cell? ⟨g, i * 2 + 1, none⟩ = some (.string x.2.2) ∧ g < w.heap.size := by
  obtain ⟨p, g', cap', hv, hp, _, _, _, hc⟩ := h.open
  simp only [Value.slice.injEq] at hv
  obtain ⟨rfl, _, rfl⟩ := hv
  have hl := (List.getElem?_eq_some_iff.1 hx).1
  obtain ⟨h0, hg⟩ := hp (by omega)
  simp only [Option.some.injEq, Addr.mk.injEq] at h0
  obtain ⟨rfl, _⟩ := h0
  exact ⟨(hc i x hx).1, (hc i x hx).2.1, hg⟩

set_option maxRecDepth 100000 in
set_option maxHeartbeats 1600000 in
theorem tells_not (w : World) (base n : Int) (v : Value) (hb : n < 1 ∨ (1 ≤ n ∧ 200 < n) ∨ (1 ≤ n ∧ n ≤ 200 ∧ base < 0) ∨ (1 ≤ n ∧ n ≤ 200 ∧ 0 ≤ base ∧ (250 : Int) - n < base)) :
    Calls Try.prog 4 #[.int .i64 base, .int .i64 n, v] w fun e w' => e = .returned (.bool true) ∧ Chg [] w w' := by
  have HB := Lib.hid (fun w' => begun_arg 250 base n w' hb (by omega) (by omega))
  rcases hb with h1 | ⟨h1, h2⟩ | ⟨h1, h2, h3⟩ | ⟨h1, h2, h3, h4⟩
  all_goals
    first | (have e4 : decide (base ≤ 250 - n) = false := decide_eq_false (by omega)) | skip
    go_enter Try.func4, Try.ntmps4
    go_wp2_with (first
      | (go_at_call 13; refine (HB.out _).mono ?_; rintro e w1 ⟨bt, rfl, hc1⟩)
      | (go_at_call 12; refine (awake_any _).mono ?_; rintro e w2 ⟨rfl, hc2⟩))
    go_ret
    exact ⟨rfl, hc1.trans hc2⟩
end Go.Proofs.Ytnijdnnnhkdjaaa
