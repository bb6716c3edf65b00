/- The contract of table.Right. -/
import Derived.Test.YtnijdnnnhkdjaaaLibE
namespace Go.Proofs.Ytnijdnnnhkdjaaa
set_option linter.unusedSimpArgs false
set_option linter.unusedVariables false
open Go Go.RowKit Go.MapKept

/-- May the entry x stand at place i of l? -/
def okAt (l : List V) (i : Nat) (x : V) : Bool :=
  (!x.1 && decide (x.2.1.toList = []) && decide (x.2.2.toList = [])) ||
  (x.1 && (match i with | 0 => true | c + 1 => match l[c]? with | some y => y.1 && Op.bytesLess y.2.1.toList x.2.1.toList | none => false))
/-- May a list be a table's? -/
def rightB (l : List V) : Bool := (List.range l.length).all fun i => match l[i]? with | some x => okAt l i x | none => false
theorem rightB_false {l : List V} {i : Nat} {x : V} (hx : l[i]? = some x) (h : okAt l i x = false) : rightB l = false := by
  have hi := (List.getElem?_eq_some_iff.1 hx).1
  unfold rightB
  rw [List.all_eq_false]
  exact ⟨i, by simpa using hi, by simp [hx, h]⟩
theorem rightB_true {l : List V} (h : ∀ i x, l[i]? = some x → okAt l i x = true) : rightB l = true := by
  unfold rightB
  rw [List.all_eq_true]
  intro i hi
  have hi : i < l.length := by simpa using hi
  rw [List.getElem?_eq_getElem hi]
  exact h i _ (List.getElem?_eq_getElem hi)

set_option maxRecDepth 100000 in
set_option maxHeartbeats 1600000 in
theorem tabright_any {w : World} {base : Nat} {v : Value} {l : List V} (h : Sl w base v l) (hl : l.length ≤ 1000) :
    Calls Try.prog 22 #[v] w fun e w' => e = .returned (.bool (rightB l)) ∧ Chg [] w w' := by
  rcases h.open with ⟨rfl, rfl⟩ | ⟨g, cap, rfl, hb, hg, hcap, hmax, hcell⟩
  · go_enter Try.func22, Try.ntmps22
    go_wp2
    go_loop [7] (fun i => i = .int .i64 0) (fun _ => 0)
    case atStart => rfl
    case round =>
      obtain rfl := hrel
      go_wp2
      go_ret
      exact ⟨rfl, Chg.refl _ _⟩
  · unfold maxLen at hmax
    have HC := Lib.hid hcell
    clear hcell h
    go_enter Try.func22, Try.ntmps22
    go_wp2
    go_loopw [7] (fun i wr => ∃ a : Nat, a ≤ l.length ∧ i = .int .i64 a ∧ Chg [] w wr ∧ ∀ k, k < a → ∀ x, l[k]? = some x → okAt l k x = true) (fun i _ => l.length - (intOf i).toNat)
    case atStart => exact ⟨0, by omega, rfl, Chg.refl _ _, by omega⟩
    case round =>
      obtain ⟨a, h1, rfl, hcw, hall⟩ := hrel
      have HA := Lib.hid hall
      clear hall
      by_cases hab : a < l.length
      · obtain ⟨x, hx⟩ : ∃ x, l[a]? = some x := ⟨l[a]'(by omega), List.getElem?_eq_getElem _⟩
        obtain ⟨k0, k1, k2, _, _, _⟩ := HC.out _ _ hx
        obtain ⟨r1, r2⟩ := hcw.cells0
        rw [← r1 _ _ hg] at k0 k1 k2
        have hgr : g < wr.heap.size := Nat.lt_of_lt_of_le hg hcw.size
        have HX := Lib.hid hx
        clear hx
        have HCW := Lib.hid hcw
        have HNEXT : okAt l a x = true → ∀ k, k < a + 1 → ∀ x, l[k]? = some x → okAt l k x = true := by
          intro ho k hk y hy
          by_cases e : k = a
          · subst e; rw [HX.out] at hy; cases hy; exact ho
          · exact HA.out k (by omega) y hy
        have HNX := Lib.hid HNEXT
        clear HNEXT
        cases hx1 : x.1 with
        | false =>
          rw [hx1] at k0
          by_cases hk : x.2.1.toList = []
          · by_cases hv : x.2.2.toList = []
            · have ho : okAt l a x = true := by simp [okAt, hx1, hk, hv]
              have HO := Lib.hid ho
              clear ho r1 r2 hcw hx1
              go_wp2
              go_roundw
              case rel => exact ⟨a + 1, by omega, by go_num, HCW.out.alloc _ , HNX.out HO.out⟩
              case measure => simp [intOf]; omega
            · have ho : okAt l a x = false := by simp [okAt, hx1, hk, hv]
              have HO := Lib.hid ho
              clear ho r1 r2 hcw hx1
              go_wp2
              go_quiet (fail)
              go_wp2
              go_ret
              exact ⟨ret_bool (rightB_false HX.out HO.out).symm, (HCW.out.alloc _).drewN _⟩
          · have ho : okAt l a x = false := by simp [okAt, hx1, hk]
            have HO := Lib.hid ho
            clear ho r1 r2 hcw hx1
            go_wp2
            go_quiet (fail)
            go_wp2
            go_ret
            exact ⟨ret_bool (rightB_false HX.out HO.out).symm, (HCW.out.alloc _).drewN _⟩
        | true =>
          rw [hx1] at k0
          cases a with
          | zero =>
            have ho : okAt l 0 x = true := by simp [okAt, hx1]
            have HO := Lib.hid ho
            clear ho r1 r2 hcw hx1
            go_wp2
            go_quiet (fail)
            go_wp2
            go_roundw
            case rel => exact ⟨0 + 1, by omega, by go_num, (HCW.out.alloc _).drewN _ , HNX.out HO.out⟩
            case measure => simp [intOf]; omega
          | succ c =>
            obtain ⟨y, hy⟩ : ∃ y, l[c]? = some y := ⟨l[c]'(by omega), List.getElem?_eq_getElem _⟩
            obtain ⟨m0, m1, m2, _, _, _⟩ := HC.out _ _ hy
            rw [← r1 _ _ hg] at m0 m1 m2
            cases hy1 : y.1 with
            | false =>
              rw [hy1] at m0
              have ho : okAt l (c + 1) x = false := by simp [okAt, hx1, hy, hy1]
              have HO := Lib.hid ho
              clear ho r1 r2 hcw hx1 hy1 hy
              go_wp2
              go_quiet (fail)
              go_wp2
              go_ret
              exact ⟨ret_bool (rightB_false HX.out HO.out).symm, (HCW.out.alloc _).drewN _⟩
            | true =>
              rw [hy1] at m0
              cases hbl : Op.bytesLess y.2.1.toList x.2.1.toList with
              | false =>
                have ho : okAt l (c + 1) x = false := by simp [okAt, hx1, hy, hy1, hbl]
                have HO := Lib.hid ho
                clear ho r1 r2 hcw hx1 hy1 hy
                go_wp2
                go_quiet (fail)
                go_wp2
                go_ret
                exact ⟨ret_bool (rightB_false HX.out HO.out).symm, (HCW.out.alloc _).drewN _⟩
              | true =>
                have ho : okAt l (c + 1) x = true := by simp [okAt, hx1, hy, hy1, hbl]
                have HO := Lib.hid ho
                clear ho r1 r2 hcw hx1 hy1 hy
                go_wp2
                go_quiet (fail)
                go_wp2
                go_roundw
                case rel => exact ⟨c + 1 + 1, by omega, by go_num, (HCW.out.alloc _).drewN _ , HNX.out HO.out⟩
                case measure => simp [intOf]; omega
      · obtain rfl : a = l.length := by omega
        go_wp2
        go_ret
        exact ⟨ret_bool (rightB_true fun i x hx => HA.out i (List.getElem?_eq_some_iff.1 hx).1 x hx).symm, hcw⟩
end Go.Proofs.Ytnijdnnnhkdjaaa
