/- The contract of table.Right at a slice that came in; what a list is that it lets by. -/
import Derived.Test.YtnijdnnnhkdjaaaTabK
namespace Go.Proofs.Ytnijdnnnhkdjaaa
set_option linter.unusedSimpArgs false
set_option linter.unusedVariables false
open Go Go.RowKit Go.MapKept

set_option maxRecDepth 100000 in
set_option maxHeartbeats 1600000 in
theorem tabright_at {w : World} {g off cap : Nat} {l : List V} (hcap : l.length ≤ cap) (hmax : cap ≤ 9223372036854775807) (hg : g < w.heap.size) (hl : l.length ≤ 1000)
    (hcell : ∀ (i : Nat) (x : V), l[i]? = some x → w.cell? ⟨g, off + i * 3, none⟩ = some (.bool x.1) ∧ w.cell? ⟨g, off + i * 3 + 1, none⟩ = some (.string x.2.1) ∧ w.cell? ⟨g, off + i * 3 + 2, none⟩ = some (.string x.2.2)) :
    Calls Try.prog 22 #[.slice (some ⟨g, off, none⟩) l.length cap] w fun e w' => e = .returned (.bool (rightB l)) ∧ Chg [] w w' := by
  have HC := Lib.hid hcell
  clear hcell
  go_enter Try.func22, Try.ntmps22
  go_wp2
  go_loopw [7] (fun i wr => ∃ a : Nat, a ≤ l.length ∧ i = .int .i64 a ∧ Chg [] w wr ∧ ∀ k, k < a → ∀ x, l[k]? = some x → okAt l k x = true) (fun i _ => l.length - (intOf i).toNat)
  case atStart => exact ⟨0, by omega, rfl, Chg.refl _ _, by omega⟩
  case round =>
    obtain ⟨a, h1, rfl, hcw, hall⟩ := hrel
    have HA := Lib.hid hall
    clear hall
    by_cases hab : a < l.length
    · obtain ⟨x, hx⟩ : ∃ x, l[a]? = some x := ⟨l[a]'(by omega), List.getElem?_eq_getElem _⟩
      obtain ⟨k0, k1, k2⟩ := HC.out _ _ hx
      obtain ⟨r1, r2⟩ := hcw.cells0
      rw [← r1 _ _ hg] at k0 k1 k2
      have hgr : g < wr.heap.size := Nat.lt_of_lt_of_le hg hcw.size
      have HX := Lib.hid hx
      clear hx
      have HCW := Lib.hid hcw
      have HNEXT : okAt l a x = true → ∀ k, k < a + 1 → ∀ x, l[k]? = some x → okAt l k x = true := by
        intro ho k hk y hy
        by_cases e : k = a
        · subst e; rw [HX.out] at hy; cases hy; exact ho
        · exact HA.out k (by omega) y hy
      have HNX := Lib.hid HNEXT
      clear HNEXT
      cases hx1 : x.1 with
      | false =>
        rw [hx1] at k0
        by_cases hk : x.2.1.toList = []
        · by_cases hv : x.2.2.toList = []
          · have ho : okAt l a x = true := by simp [okAt, hx1, hk, hv]
            have HO := Lib.hid ho
            clear ho r1 r2 hcw hx1
            go_wp2
            go_roundw
            case rel => exact ⟨a + 1, by omega, by go_num, HCW.out.alloc _ , HNX.out HO.out⟩
            case measure => simp [intOf]; omega
          · have ho : okAt l a x = false := by simp [okAt, hx1, hk, hv]
            have HO := Lib.hid ho
            clear ho r1 r2 hcw hx1
            go_wp2
            go_quiet (fail)
            go_wp2
            go_ret
            exact ⟨ret_bool (rightB_false HX.out HO.out).symm, (HCW.out.alloc _).drewN _⟩
        · have ho : okAt l a x = false := by simp [okAt, hx1, hk]
          have HO := Lib.hid ho
          clear ho r1 r2 hcw hx1
          go_wp2
          go_quiet (fail)
          go_wp2
          go_ret
          exact ⟨ret_bool (rightB_false HX.out HO.out).symm, (HCW.out.alloc _).drewN _⟩
      | true =>
        rw [hx1] at k0
        cases a with
        | zero =>
          have ho : okAt l 0 x = true := by simp [okAt, hx1]
          simp only [Nat.zero_mul, Nat.add_zero] at k0 k1 k2
          have HO := Lib.hid ho
          clear ho r1 r2 hcw hx1
          go_wp2
          go_quiet (fail)
          go_wp2
          go_roundw
          case rel => exact ⟨0 + 1, by omega, by go_num, (HCW.out.alloc _).drewN _ , HNX.out HO.out⟩
          case measure => simp [intOf]; omega
        | succ c =>
          obtain ⟨y, hy⟩ : ∃ y, l[c]? = some y := ⟨l[c]'(by omega), List.getElem?_eq_getElem _⟩
          obtain ⟨m0, m1, m2⟩ := HC.out _ _ hy
          rw [← r1 _ _ hg] at m0 m1 m2
          cases hy1 : y.1 with
          | false =>
            rw [hy1] at m0
            have ho : okAt l (c + 1) x = false := by simp [okAt, hx1, hy, hy1]
            have HO := Lib.hid ho
            clear ho r1 r2 hcw hx1 hy1 hy
            go_wp2
            go_quiet (fail)
            go_wp2
            go_ret
            exact ⟨ret_bool (rightB_false HX.out HO.out).symm, (HCW.out.alloc _).drewN _⟩
          | true =>
            rw [hy1] at m0
            cases hbl : Op.bytesLess y.2.1.toList x.2.1.toList with
            | false =>
              have ho : okAt l (c + 1) x = false := by simp [okAt, hx1, hy, hy1, hbl]
              have HO := Lib.hid ho
              clear ho r1 r2 hcw hx1 hy1 hy
              go_wp2
              go_quiet (fail)
              go_wp2
              go_ret
              exact ⟨ret_bool (rightB_false HX.out HO.out).symm, (HCW.out.alloc _).drewN _⟩
            | true =>
              have ho : okAt l (c + 1) x = true := by simp [okAt, hx1, hy, hy1, hbl]
              have HO := Lib.hid ho
              clear ho r1 r2 hcw hx1 hy1 hy
              go_wp2
              go_quiet (fail)
              go_wp2
              go_roundw
              case rel => exact ⟨c + 1 + 1, by omega, by go_num, (HCW.out.alloc _).drewN _ , HNX.out HO.out⟩
              case measure => simp [intOf]; omega
    · obtain rfl : a = l.length := by omega
      go_wp2
      go_ret
      exact ⟨ret_bool (rightB_true fun i x hx => HA.out i (List.getElem?_eq_some_iff.1 hx).1 x hx).symm, hcw⟩

/-- A list that Right lets by is a rising list with empty entries behind it. -/
theorem right_split {l : List V} (h : rightB l = true) : ∃ l', Rising l' ∧ l = padL l' l.length ∧ l'.length ≤ l.length := by
  have hok : ∀ (i : Nat) (y : V), l[i]? = some y → okAt l i y = true := by
    intro i y hy
    have hi := (List.getElem?_eq_some_iff.1 hy).1
    unfold rightB at h
    rw [List.all_eq_true] at h
    have := h i (by simpa using hi)
    simpa [hy] using this
  have hu := right_used h
  have hle := usedLen_le l
  have hlen : (l.take (usedLen l)).length = usedLen l := by rw [List.length_take]; omega
  refine ⟨l.take (usedLen l), ⟨?_, ?_⟩, ?_, by rw [hlen]; exact hle⟩
  · intro x hx
    obtain ⟨i, hi, rfl⟩ := List.getElem_of_mem hx
    rw [List.getElem_take]
    exact (hu i _ (List.getElem?_eq_getElem (by omega))).2 (by omega)
  · have step : ∀ c (hc : c + 1 < usedLen l), Op.bytesLess (l[c]'(by omega)).2.1.toList (l[c + 1]'(by omega)).2.1.toList = true := by
      intro c hc
      have hx := List.getElem?_eq_getElem (l := l) (i := c + 1) (by omega)
      have hy := List.getElem?_eq_getElem (l := l) (i := c) (by omega)
      have h1 := (hu (c + 1) _ hx).2 hc
      have := hok (c + 1) _ hx
      simp [okAt, h1, hy] at this
      exact this.2
    rw [List.pairwise_iff_getElem]
    intro a b ha hb hab
    rw [hlen] at hb
    simp only [List.getElem_take]
    induction hd : b - a - 1 generalizing b with
    | zero =>
      obtain rfl : b = a + 1 := by omega
      exact step a hb
    | succ d ih =>
      have := ih (b - 1) (by rw [hlen]; omega) (by omega) (by omega) (by omega)
      have hs := step (b - 1) (by omega)
      have e : b - 1 + 1 = b := by omega
      simp only [e] at hs
      exact less_trans _ _ _ this hs
  · apply List.ext_getElem?
    intro i
    unfold padL
    rw [hlen]
    by_cases hi : i < usedLen l
    · rw [List.getElem?_append_left (by omega), List.getElem?_take, if_pos hi]
    · rw [List.getElem?_append_right (by omega), hlen, List.getElem?_replicate]
      by_cases hil : i < l.length
      · rw [if_pos (by omega)]
        have hx := List.getElem?_eq_getElem (l := l) (i := i) hil
        rw [hx]
        have hn : (l[i]).1 = false := by
          cases hh : (l[i]).1 with
          | false => rfl
          | true => exact absurd ((hu i _ hx).1 hh) hi
        have := hok i _ hx
        simp [okAt, hn] at this
        congr 1
        have e2 : (l[i]).2.1 = ByteArray.empty := ByteArray.ext (Array.toList_inj.1 (by rw [← ByteArray.toList_eq]; exact this.1))
        have e3 : (l[i]).2.2 = ByteArray.empty := ByteArray.ext (Array.toList_inj.1 (by rw [← ByteArray.toList_eq]; exact this.2))
        exact Prod.ext hn (Prod.ext e2 e3)
      · rw [if_neg (by omega)]
        simp; omega
end Go.Proofs.Ytnijdnnnhkdjaaa
