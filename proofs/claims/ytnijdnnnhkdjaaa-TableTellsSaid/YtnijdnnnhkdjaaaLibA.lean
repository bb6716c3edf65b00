/- Slices of entries in memory, and the contracts of the library's searches at them. -/
import Derived.Test.YtnijdnnnhkdjaaaTxC
import Derived.Test.YtnijdnnnhkdjaaaShelf
namespace Go.Proofs.Ytnijdnnnhkdjaaa
set_option linter.unusedSimpArgs false
set_option linter.unusedVariables false
open Go Go.RowKit Go.MapKept

/-- A slice of entries. -/
def Sl (w : World) (base : Nat) (v : Value) (l : List V) : Prop := w.ownsRow base 27 3 v l.length (l.flatMap encV)

theorem flat3 (l : List V) (i j : Nat) (hj : j < 3) : (l.flatMap encV)[i * 3 + j]? = (l[i]?).bind fun c => (encV c)[j]? := by
  induction l generalizing i with
  | nil => simp
  | cons c r ih =>
    have hl : (encV c).length = 3 := by simp [encV]
    cases i with
    | zero => rw [List.flatMap_cons, List.getElem?_append_left (by omega)]; simp
    | succ i => rw [List.flatMap_cons, List.getElem?_append_right (by omega), hl, show (i + 1) * 3 + j - 3 = i * 3 + j by omega, ih]; simp

theorem Sl.open {w : World} {base : Nat} {v : Value} {l : List V} (h : Sl w base v l) :
    (v = .slice none 0 0 ∧ l = []) ∨ ∃ g cap, v = .slice (some ⟨g, 0, none⟩) l.length cap ∧ base ≤ g ∧ g < w.heap.size ∧ l.length ≤ cap ∧ cap ≤ maxLen ∧
      ∀ i x, l[i]? = some x → w.cell? ⟨g, i * 3, none⟩ = some (.bool x.1) ∧ w.cell? ⟨g, i * 3 + 1, none⟩ = some (.string x.2.1) ∧ w.cell? ⟨g, i * 3 + 2, none⟩ = some (.string x.2.2) ∧
        w.frozen? ⟨g, i * 3, none⟩ = false ∧ w.frozen? ⟨g, i * 3 + 1, none⟩ = false ∧ w.frozen? ⟨g, i * 3 + 2, none⟩ = false := by
  rcases h.2 with ⟨h1, h2⟩ | ⟨g, cap, cur, h1, h2, h3, h4, h5, h6, h7⟩
  · exact .inl ⟨h1, List.length_eq_zero_iff.1 h2⟩
  · refine .inr ⟨g, cap, h1, h2, lt_of_blk h3, h4, h5, ?_⟩
    intro i x hx
    have hi : i < l.length := (List.getElem?_eq_some_iff.1 hx).1
    have k : ∀ j, j < 3 → w.cell? ⟨g, i * 3 + j, none⟩ = (encV x)[j]? := by
      intro j hj
      rw [cellAt h3]
      have e := flat3 l i j hj
      rw [← h7, List.getElem?_take, if_pos (by omega)] at e
      simp only [hx, Option.bind_some] at e
      simpa using e
    exact ⟨k 0 (by omega), k 1 (by omega), k 2 (by omega), freeAt h3 _, freeAt h3 _, freeAt h3 _⟩

theorem Sl.chg {S : List Nat} {w w' : World} {base : Nat} {v : Value} {l : List V} (h : Sl w base v l) (hc : Chg S w w') (hs : ∀ k, v.ownBlock = some k → k ∉ S) : Sl w' base v l := by
  refine ⟨h.1, ?_⟩
  rcases h.2 with h1 | ⟨g, cap, cur, h1, h2, h3, h4⟩
  · exact .inl h1
  · exact .inr ⟨g, cap, cur, h1, h2, hc.at h3 (hs g (by simp [h1, Value.ownBlock])), h4⟩
theorem Sl.chg0 {w w' : World} {base : Nat} {v : Value} {l : List V} (h : Sl w base v l) (hc : Chg [] w w') : Sl w' base v l := h.chg hc (by simp)

def cmpE (x : V) (key : ByteArray) : Int := Lib.compareBytes x.2.1.data.toList key.data.toList

set_option maxRecDepth 100000 in
set_option maxHeartbeats 400000 in
theorem cmpf_any (x : V) (key : ByteArray) (w : World) :
    Calls Try.prog 48 #[.agg #[.bool x.1, .string x.2.1, .string x.2.2], .string key] w fun e w' => e = .returned (.int .i64 (cmpE x key)) ∧ Chg [] w w' := by
  go_enter Try.func48, Try.ntmps48
  go_wp2_with (go_at_call 49; refine (Try.strings_Compare _ _ _).mono ?_; rintro e w' ⟨rfl, rfl⟩)
  go_ret
  exact ⟨rfl, (Chg.refl [] w).alloc _⟩

set_option maxRecDepth 100000 in
set_option maxHeartbeats 400000 in
theorem delf_any (x : V) (w : World) :
    Calls Try.prog 46 #[.agg #[.bool x.1, .string x.2.1, .string x.2.2]] w fun e w' => e = .returned (.bool (!x.1)) ∧ Chg [] w w' := by
  go_enter Try.func46, Try.ntmps46
  go_wp2
  go_ret
  exact ⟨rfl, (Chg.refl [] w).alloc _⟩

/-- Is the key at this place? -/
def hasAt (l : List V) (p : Nat) (key : ByteArray) : Bool := match l[p]? with | some x => cmpE x key == 0 | none => false

set_option maxRecDepth 100000 in
set_option maxHeartbeats 800000 in
theorem bsf_any {w : World} {base : Nat} {v : Value} {l : List V} (h : Sl w base v l) (key : ByteArray) (hl : l.length ≤ 1000) (p : Nat) (hp : p ≤ l.length) (hs : ∀ a x, l[a]? = some x → (a < p ↔ cmpE x key < 0)) :
    Calls Try.prog 47 #[v, .string key, .func (.func 48) #[] #[]] w fun e w' => e = .returned (.tuple #[.int .i64 p, .bool (hasAt l p key)]) ∧ Chg [] w w' := by
  rcases h.open with ⟨rfl, rfl⟩ | ⟨g, cap, rfl, hb, hg, hcap, hmax, hcell⟩
  · have : p = 0 := by simpa using hp
    subst this
    go_enter Try.func47, Try.ntmps47
    go_wp2
    go_loop [9, 10] (fun i j => i = .int .i64 0 ∧ j = .int .i64 0) (fun _ _ => 0)
    case atStart => exact ⟨rfl, rfl⟩
    case round =>
      obtain ⟨rfl, rfl⟩ := hrel
      go_wp2
      go_ret2
      exact ⟨rfl, Chg.refl _ _⟩
  · have H := Lib.hid hs
    clear hs
    unfold maxLen at hmax
    go_enter Try.func47, Try.ntmps47
    go_wp2
    go_loopw [9, 10] (fun i j wr => ∃ a b : Nat, a ≤ p ∧ p ≤ b ∧ b ≤ l.length ∧ i = .int .i64 a ∧ j = .int .i64 b ∧ Chg [] w wr) (fun i j _ => (intOf j - intOf i).toNat)
    case atStart => exact ⟨0, l.length, by omega, hp, by omega, rfl, rfl, Chg.refl _ _⟩
    case round =>
      obtain ⟨a, b, h1, h2, h3, rfl, rfl, hcw⟩ := hrel
      by_cases hab : a < b
      · obtain ⟨x, hx⟩ : ∃ x, l[(a + b) / 2]? = some x := ⟨l[(a + b) / 2]'(by omega), List.getElem?_eq_getElem _⟩
        obtain ⟨k0, k1, k2, _, _, _⟩ := hcell _ _ hx
        obtain ⟨r1, r2⟩ := hcw.cells0
        rw [← r1 _ _ hg] at k0 k1 k2
        clear r1 r2
        have HX := Lib.hid hx
        clear hx
        have hm : (a + b) / 2 < l.length := by omega
        by_cases hlt : cmpE x key < 0
        · have hap := (H.out _ _ HX.out).2 hlt
          go_wp2_with (go_at_call 48; refine (cmpf_any _ _ _).mono ?_; rintro e w' ⟨rfl, hc1⟩)
          go_roundw
          case rel => exact ⟨(a + b) / 2 + 1, b, by omega, h2, h3, by go_num, rfl, hcw.trans hc1⟩
          case measure => simp [intOf]; omega
        · have hap : ¬ (a + b) / 2 < p := fun k => hlt ((H.out _ _ HX.out).1 k)
          go_wp2_with (go_at_call 48; refine (cmpf_any _ _ _).mono ?_; rintro e w' ⟨rfl, hc1⟩)
          go_roundw
          case rel => exact ⟨a, (a + b) / 2, h1, by omega, by omega, rfl, rfl, hcw.trans hc1⟩
          case measure => simp [intOf]; omega
      · obtain rfl : a = p := by omega
        by_cases hn : a < l.length
        · obtain ⟨x, hx⟩ : ∃ x, l[a]? = some x := ⟨l[a]'(by omega), List.getElem?_eq_getElem _⟩
          obtain ⟨k0, k1, k2, _, _, _⟩ := hcell _ _ hx
          obtain ⟨r1, r2⟩ := hcw.cells0
          rw [← r1 _ _ hg] at k0 k1 k2
          clear r1 r2
          have HX := Lib.hid hx
          clear hx
          go_wp2_with (go_at_call 48; refine (cmpf_any _ _ _).mono ?_; rintro e w' ⟨rfl, hc1⟩)
          go_ret2
          exact ⟨by simp [hasAt, HX.out], hcw.trans hc1⟩
        · go_wp2
          go_ret2
          have : l[a]? = none := by simp; omega
          exact ⟨by simp [hasAt, this], hcw⟩

set_option maxRecDepth 100000 in
set_option maxHeartbeats 400000 in
theorem find_any {w : World} {base : Nat} {v : Value} {l : List V} (h : Sl w base v l) (key : ByteArray) (hl : l.length ≤ 1000) (p : Nat) (hp : p ≤ l.length) (hs : ∀ a x, l[a]? = some x → (a < p ↔ cmpE x key < 0)) :
    Calls Try.prog 31 #[v, .string key] w fun e w' => e = .returned (.tuple #[.int .i64 p, .bool (hasAt l p key)]) ∧ Chg [] w w' := by
  have H := Lib.hid hs
  clear hs
  go_enter Try.func31, Try.ntmps31
  go_wp2_with (go_at_call 47; refine (bsf_any h key hl p hp H.out).mono ?_; rintro e w' ⟨rfl, hc1⟩)
  go_ret2
  exact ⟨rfl, hc1⟩

/-- The first place that is not used; none: -1. -/
def idxRes (l : List V) : Int := match l.findIdx? (fun x => !x.1) with | some k => (k : Int) | none => -1
theorem idxRes_some (l : List V) (a : Nat) (x : V) (hx : l[a]? = some x) (h1 : x.1 = false) (h : ∀ k, k < a → ∀ x, l[k]? = some x → x.1 = true) : idxRes l = a := by
  have : l.findIdx? (fun x => !x.1) = some a := by
    obtain ⟨ha, he⟩ := List.getElem?_eq_some_iff.1 hx
    rw [List.findIdx?_eq_some_iff_getElem]
    refine ⟨ha, by rw [he, h1]; rfl, ?_⟩
    intro j hj
    have := h j hj _ (List.getElem?_eq_getElem (by omega))
    simp [this]
  unfold idxRes
  rw [this]
theorem idxRes_none (l : List V) (h : ∀ k, k < l.length → ∀ x, l[k]? = some x → x.1 = true) : idxRes l = -1 := by
  have : l.findIdx? (fun x => !x.1) = none := by
    rw [List.findIdx?_eq_none_iff]
    intro x hx
    obtain ⟨i, hi, he⟩ := List.getElem_of_mem hx
    have := h i hi x (by rw [List.getElem?_eq_getElem hi, he])
    simp [this]
  unfold idxRes
  rw [this]

set_option maxRecDepth 100000 in
set_option maxHeartbeats 800000 in
theorem idxf_any {w : World} {base : Nat} {v : Value} {l : List V} (h : Sl w base v l) (hl : l.length ≤ 1000) :
    Calls Try.prog 57 #[v, .func (.func 46) #[] #[]] w fun e w' => e = .returned (.int .i64 (idxRes l)) ∧ Chg [] w w' := by
  rcases h.open with ⟨rfl, rfl⟩ | ⟨g, cap, rfl, hb, hg, hcap, hmax, hcell⟩
  · go_enter Try.func57, Try.ntmps57
    go_wp2
    go_loop [8] (fun i => i = .int .i64 0) (fun _ => 0)
    case atStart => rfl
    case round =>
      obtain rfl := hrel
      go_wp2
      go_ret
      exact ⟨rfl, Chg.refl _ _⟩
  · unfold maxLen at hmax
    have HC := Lib.hid hcell
    clear hcell
    go_enter Try.func57, Try.ntmps57
    go_wp2
    go_loopw [8] (fun i wr => ∃ a : Nat, a ≤ l.length ∧ i = .int .i64 a ∧ Chg [] w wr ∧ ∀ k, k < a → ∀ x, l[k]? = some x → x.1 = true) (fun i _ => l.length - (intOf i).toNat)
    case atStart => exact ⟨0, by omega, rfl, Chg.refl _ _, by omega⟩
    case round =>
      obtain ⟨a, h1, rfl, hcw, hall⟩ := hrel
      have HA := Lib.hid hall
      clear hall
      by_cases hab : a < l.length
      · obtain ⟨x, hx⟩ : ∃ x, l[a]? = some x := ⟨l[a]'(by omega), List.getElem?_eq_getElem _⟩
        obtain ⟨k0, k1, k2, _, _, _⟩ := HC.out _ _ hx
        obtain ⟨r1, r2⟩ := hcw.cells0
        rw [← r1 _ _ hg] at k0 k1 k2
        clear r1 r2
        have HX := Lib.hid hx
        clear hx
        cases hx1 : x.1 with
        | true =>
          have HX1 := Lib.hid hx1
          have HD : ∀ w, Calls Try.prog 46 #[.agg #[.bool true, .string x.2.1, .string x.2.2]] w fun e w' => e = .returned (.bool false) ∧ Chg [] w w' := fun w => by
            have := delf_any x w; rw [hx1] at this; exact this
          have HD1 := Lib.hid HD
          rw [hx1] at k0
          clear hx1 HD
          go_wp2_with (go_at_call 46; refine (HD1.out _).mono ?_; rintro e w' ⟨rfl, hc1⟩)
          go_roundw
          case rel => exact ⟨a + 1, by omega, by go_num, hcw.trans hc1, fun k hk y hy => by
            by_cases e : k = a
            · subst e; rw [HX.out] at hy; cases hy; exact HX1.out
            · exact HA.out k (by omega) y hy⟩
          case measure => simp [intOf]; omega
        | false =>
          have HX1 := Lib.hid hx1
          have HD : ∀ w, Calls Try.prog 46 #[.agg #[.bool false, .string x.2.1, .string x.2.2]] w fun e w' => e = .returned (.bool true) ∧ Chg [] w w' := fun w => by
            have := delf_any x w; rw [hx1] at this; exact this
          have HD1 := Lib.hid HD
          rw [hx1] at k0
          clear hx1 HD
          go_wp2_with (go_at_call 46; refine (HD1.out _).mono ?_; rintro e w' ⟨rfl, hc1⟩)
          go_ret
          exact ⟨ret_int (idxRes_some l a x HX.out HX1.out HA.out).symm, hcw.trans hc1⟩
      · obtain rfl : a = l.length := by omega
        go_wp2
        go_ret
        exact ⟨ret_int (idxRes_none l HA.out).symm, hcw⟩
end Go.Proofs.Ytnijdnnnhkdjaaa
