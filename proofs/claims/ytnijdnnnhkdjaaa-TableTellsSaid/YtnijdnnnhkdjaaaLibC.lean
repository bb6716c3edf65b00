/- The contract of slices.DeleteFunc at entries of which the used ones come first. -/
import Derived.Test.YtnijdnnnhkdjaaaLibB
namespace Go.Proofs.Ytnijdnnnhkdjaaa
set_option linter.unusedSimpArgs false
set_option linter.unusedVariables false
open Go Go.RowKit Go.MapKept

set_option maxRecDepth 100000 in
set_option maxHeartbeats 800000 in
theorem delfunc_any {w : World} {base : Nat} {v : Value} {l : List V} (h : Sl w base v l) (k : Nat) (hk : k ≤ l.length) (hl : l.length ≤ 1000) (h1 : ∀ a x, l[a]? = some x → (x.1 = true ↔ a < k)) :
    Calls Try.prog 45 #[v, .func (.func 46) #[] #[]] w fun e w' => ∃ v', e = .returned v' ∧ Sl w' base v' (l.take k) ∧ v'.ownBlock = v.ownBlock ∧ Chg v.ownBlock.toList w w' := by
  by_cases hkn : k = l.length
  · have hres : idxRes l = -1 := idxRes_none l (fun a ha x hx => (h1 a x hx).2 (by omega))
    have hI := idxf_any h hl
    rw [hres] at hI
    have HI := Lib.hid hI
    have hfin : Sl w base v (l.take k) := by rw [hkn, List.take_length]; exact h
    have HF := Lib.hid hfin
    clear hI hres hfin hkn h1
    go_enter Try.func45, Try.ntmps45
    go_wp2_with (go_at_call 57; refine HI.out.mono ?_; rintro e w' ⟨rfl, hc1⟩)
    go_ret
    exact ⟨v, rfl, HF.out.chg0 hc1, rfl, hc1.of_nil⟩
  · have hkl : k < l.length := by omega
    have hx := List.getElem?_eq_getElem hkl
    have hres : idxRes l = k := idxRes_some l k _ hx (by
        have := (h1 k _ hx); cases hh : l[k].1 with | true => exact absurd (this.1 hh) (by omega) | false => rfl) (fun a ha x hx => (h1 a x hx).2 ha)
    have hI := idxf_any h hl
    rw [hres] at hI
    have HI := Lib.hid hI
    clear hI hres hkn hx
    rcases h.2 with ⟨_, h0⟩ | ⟨g, cap, cur, rfl, h2, h3, h4, h5, h6, h7⟩
    · omega
    · have h5' := h5
      unfold maxLen at h5
      have hg := lt_of_blk h3
      rcases h.open with ⟨hv, _⟩ | ⟨g', cap', hv, _, _, _, _, hcell⟩
      · simp at hv
      simp only [Value.slice.injEq, Option.some.injEq, Addr.mk.injEq] at hv
      obtain ⟨⟨rfl, _⟩, _, rfl⟩ := hv
      have HC := Lib.hid hcell
      have H1 := Lib.hid h1
      have HH := Lib.hid (And.intro h2 (And.intro h3 (And.intro h6 h7)))
      have e1 : ((k : Int) == -1) = false := beq_eq_false_iff_ne.2 (by omega)
      clear hcell h1 h7 h6 h3 h2 h
      go_enter Try.func45, Try.ntmps45
      go_wp2_with (go_at_call 57; refine HI.out.mono ?_; rintro e w1 ⟨rfl, hc1⟩)
      go_loopw [5, 6] (fun i j wr => ∃ a : Nat, k + 1 ≤ a ∧ a ≤ l.length ∧ i = .int .i64 k ∧ j = .int .i64 a ∧ Chg [] w wr) (fun _ j _ => l.length - (intOf j).toNat)
      case atStart => exact ⟨k + 1, by omega, by omega, rfl, by go_num, hc1⟩
      case round =>
        obtain ⟨a, ha1, ha2, rfl, rfl, hcw⟩ := hrel
        by_cases hab : a < l.length
        · obtain ⟨x, hx⟩ : ∃ x, l[a]? = some x := ⟨l[a]'(by omega), List.getElem?_eq_getElem _⟩
          obtain ⟨k0, k1, k2, _, _, _⟩ := HC.out _ _ hx
          obtain ⟨r1, r2⟩ := hcw.cells0
          rw [← r1 _ _ hg] at k0 k1 k2
          clear r1 r2
          have hx1 : x.1 = false := by
            have := (H1.out a x hx); cases hh : x.1 with | true => exact absurd (this.1 hh) (by omega) | false => rfl
          have HD : ∀ w, Calls Try.prog 46 #[.agg #[.bool false, .string x.2.1, .string x.2.2]] w fun e w' => e = .returned (.bool true) ∧ Chg [] w w' := fun w => by
            have := delf_any x w; rw [hx1] at this; exact this
          have HD1 := Lib.hid HD
          rw [hx1] at k0
          clear hx1 HD hx
          go_wp2_with (go_at_call 46; refine (HD1.out _).mono ?_; rintro e w' ⟨rfl, hc2⟩)
          go_roundw
          case rel => exact ⟨a + 1, by omega, by omega, rfl, by go_num, (hcw.alloc _).trans hc2⟩
          case measure => simp [intOf]; omega
        · obtain rfl : a = l.length := by omega
          obtain ⟨h2, h3, h6, h7⟩ := HH.out
          have h3r := hcw.at h3 (by simp)
          have hcap : k ≤ cap := by omega
          have hcap2 : ¬ cap = k := by omega
          let cs2 := cur.toList.take (k * 3) ++ (Builtin.zeroCells (valV MC.z.val).cells (l.length - k)).toList ++ cur.toList.drop (k * 3 + (l.length - k) * 3)
          have hcl : ∀ ty c, (Builtin.clear_ #[35] ty #[.slice (some ⟨g, k * 3, none⟩) (l.length - k) c]).run Try.prog wr = .ok (.tuple #[]) (wr.setRow g cs2.toArray) := by
            intro ty c
            have := run_clear_row (m := l.length - k) (o := k * 3) (c := c) ty Try.underlying35 (valV MC.z.val) zero_V (by simp [valV, Value.cells]) one_Z h3r (by omega) (by simp [valV, Value.cells, h6]; omega)
            simpa [cs2, valV, Value.cells] using this
          have HF : ∃ v', v' = Value.slice (some ⟨g, 0, none⟩) k cap ∧ Sl (wr.setRow g cs2.toArray) base v' (l.take k) := by
            have hle : (l.take k).length = k := by rw [List.length_take]; omega
            refine ⟨_, rfl, ?_⟩
            have := Sl.mk (w := wr.setRow g cs2.toArray) (cur := cs2) (l := l.take k) h2 (row_new h3r _) (cap := cap) (by omega) h5' (by simp [cs2, h6, valV, Value.cells, Builtin.zeroCells]; omega) (by
              rw [hle]
              simp only [cs2]
              rw [List.append_assoc, List.take_append_of_le_length (by rw [List.length_take]; simp [h6]; omega), List.take_take, Nat.min_self, ← take_flat, ← h7, List.take_take, Nat.min_eq_left (by omega)])
            rwa [hle] at this
          have hchg : Chg [g] w (wr.setRow g cs2.toArray) := hcw.of_nil.setRow g _ (by simp)
          have HX := Lib.hid (And.intro HF hchg)
          clear HF hchg h7 h6 h3 h2 h3r
          clear_value cs2
          go_wp2
          go_ret
          obtain ⟨⟨v', hv', hS⟩, hC⟩ := HX.out
          subst hv'
          exact ⟨_, rfl, hS, rfl, hC⟩
end Go.Proofs.Ytnijdnnnhkdjaaa
