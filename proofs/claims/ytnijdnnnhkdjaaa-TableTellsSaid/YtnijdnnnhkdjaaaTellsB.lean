/- The walk of the law TableTells, at a table that may be. -/
import Derived.Test.YtnijdnnnhkdjaaaTellsA
namespace Go.Proofs.Ytnijdnnnhkdjaaa
set_option linter.unusedSimpArgs false
set_option linter.unusedVariables false
open Go Go.RowKit Go.MapKept

abbrev OpV := Int × ByteArray × ByteArray

theorem Sp.tab {w w' : World} {b : At} {B : Nat} {v : Value} {l : List V} (h : Sp w B v l) (hc : Chg [b.r, b.w] w w') (hr : b.r < B) (hw : b.w < B) : Sp w' B v l :=
  h.chg hc (fun k hk e => by have := h.lt k hk; simp only [List.mem_cons, List.not_mem_nil, or_false] at e; omega)
theorem Chg.rw {b : At} {w w' : World} (h : Chg [b.r] w w') : Chg [b.r, b.w] w w' := h.mono (fun k _ hk => by simp at hk ⊢; exact .inl hk)

set_option maxRecDepth 100000 in
set_option maxHeartbeats 60000000 in
theorem tells_right (w : World) (base n : Nat) (h1 : 1 ≤ n) (h2 : n ≤ 200) (h3 : base + n ≤ 250) (p : Option Addr) (cap : Nat) (lo : List OpV) (g off : Nat) (hp : 0 < lo.length → p = some ⟨g, off, none⟩ ∧ g < w.heap.size) (hlc : lo.length ≤ cap) (hmax : cap ≤ 9223372036854775807)
    (hcell : ∀ (i : Nat) (x : OpV), lo[i]? = some x → w.cell? ⟨g, off + i * 3, none⟩ = some (.int .i64 x.1) ∧ w.cell? ⟨g, off + i * 3 + 1, none⟩ = some (.string x.2.1) ∧ w.cell? ⟨g, off + i * 3 + 2, none⟩ = some (.string x.2.2)) :
    Calls Try.prog 4 #[.int .i64 base, .int .i64 n, .slice p lo.length cap] w fun e w' => e = .returned (.bool true) ∧ Chg [] w w' := by
  have HC := Lib.hid hcell
  have HP := Lib.hid hp
  have HB := Lib.hid (fun w' => begun_ok 250 base n w' h1 h2 h3 (by omega))
  clear hcell hp
  have e4 : decide ((base : Int) ≤ 250 - (n : Int)) = true := decide_eq_true (by omega)
  go_enter Try.func4, Try.ntmps4
  go_wp2_with (go_at_call 13; refine (HB.out _).mono ?_; rintro e w1 ⟨b, bx, rfl, hc1, ht1, l1, l2, l3, l4, l5, l6, l7⟩; have HT1 := Lib.hid ht1; clear ht1)
  clear e4
  have hlts := HT1.out.lts
  have hF : ∀ x ∈ [b.r, b.w], x ∈ ([] : List Nat) ∨ w.heap.size ≤ x := by intro x hx; simp at hx; right; omega
  have HF := Lib.hid hF
  have HLT := Lib.hid hlts
  have HC1 := Lib.hid hc1
  clear hF hlts hc1
  go_loopw [11, 12] (fun v i wr => ∃ (a : Nat) (l : List V), a ≤ lo.length ∧ a ≤ 120 ∧ i = .int .i64 a ∧ Chg [] w wr ∧ w1.heap.size ≤ wr.heap.size ∧ Sp wr w1.heap.size v l ∧ TabIs wr b 0 (List.replicate 250 MC.z) 1 0 0 bx base n l) (fun _ i _ => lo.length - (intOf i).toNat)
  case atStart => exact ⟨0, [], by omega, by omega, rfl, HC1.out, Nat.le_refl _, World.ownsRow_nil _ _ _ _, HT1.out⟩
  case round =>
    obtain ⟨a, l, n1, n2, rfl, hcw, hsz, hs, ht⟩ := hrel
    have hln := ht.len
    have hl2 : l.length ≤ 200 := by omega
    have HR := Lib.hid ht.rising
    have HCW := Lib.hid hcw
    have HS := Lib.hid hs
    have HT := Lib.hid ht
    clear ht hs
    by_cases hab : a < lo.length ∧ a < 120
    · obtain ⟨hal, ha1⟩ := hab
      obtain ⟨⟨k, xk, xv⟩, hx⟩ : ∃ x, lo[a]? = some x := ⟨lo[a]'(by omega), List.getElem?_eq_getElem _⟩
      obtain ⟨rfl, hg⟩ := HP.out (by omega)
      obtain ⟨k0, k1, k2⟩ := HC.out _ _ hx
      obtain ⟨r1, r2⟩ := hcw.cells0
      rw [← r1 _ _ hg] at k0 k1 k2
      have hgr : g < wr.heap.size := Nat.lt_of_lt_of_le hg hcw.size
      have hbs : ∀ o, w1.heap.size ≤ (wr.alloc o).heap.size := fun o => by simp; omega
      have HBS := Lib.hid hbs
      simp only at k0 k1 k2
      clear hx hcw r1 r2 hbs
      have hk : (k = 0 ∨ k = 1 ∨ k = 2) ∨ k = 3 ∨ k = 4 ∨ k = 5 ∨ k = 6 ∨ ((k == 0) = false ∧ (k == 1) = false ∧ (k == 2) = false ∧ (k == 3) = false ∧ (k == 4) = false ∧ (k == 5) = false ∧ (k == 6) = false) := by
        simp only [beq_eq_false_iff_ne]; omega
      rcases hk with hk | rfl | rfl | rfl | rfl | ⟨e0, e1, e2, e3, e4, e5, e6⟩
      · rcases hk with rfl | rfl | rfl
        all_goals as_aux_lemma =>
          go_wp2_with (first
            | (go_at_call 14; refine (rput_any (HS.out.chg0 ((Chg.refl [] wr).alloc _)) (HBS.out _) HR.out hl2 n hln xk xv).mono ?_; rintro e w2 ⟨v2, rfl, hc2, hs2⟩; have HS2 := Lib.hid hs2; clear hs2; obtain ⟨q0, q1, q2, _, _, _, zq, hq⟩ := hc2.keep3 (blk_new wr _) (by simp))
            | (go_at_call 9; refine (put_is (HT.out.chg0 (((Chg.refl [] wr).alloc _).trans hc2)) xk xv).mono ?_; rintro e w3 ⟨rfl, hc3, ht3⟩; have HT3 := Lib.hid ht3; clear ht3))
          have HFIN := Lib.hid (And.intro ((((HCW.out.alloc _).trans hc2).trans' hc3 HF.out)) (And.intro (HS2.out.tab hc3 (by have := HLT.out; omega) (by have := HLT.out; omega)) (show w1.heap.size ≤ w3.heap.size by have := hc2.size; have := hc3.size; simp at *; omega)))
          go_roundw
          case rel => exact ⟨a + 1, putL l n xk xv, by omega, by omega, by go_num, HFIN.out.1, HFIN.out.2.2, HFIN.out.2.1, HT3.out⟩
          case measure => simp [intOf]; omega
      · as_aux_lemma =>
        go_wp2_with (first
          | (go_at_call 15; refine (get_is (HT.out.chg0 ((Chg.refl [] wr).alloc _)) xk).mono ?_; rintro e w2 ⟨rfl, hc2, ht2⟩; have HT2 := Lib.hid ht2; clear ht2; obtain ⟨q0, q1, q2, _, _, _, zq, hq⟩ := hc2.keep3 (blk_new wr _) (by have := HLT.out; simp; omega))
          | (go_at_call 16; refine (rget_any ((HS.out.chg0 ((Chg.refl [] wr).alloc _)).tab hc2.rw (by have := HLT.out; omega) (by have := HLT.out; omega)) HR.out xk).mono ?_; rintro e w3 ⟨rfl, rfl⟩))
        have HFIN := Lib.hid (And.intro ((((HCW.out.alloc _).trans' hc2.rw HF.out))) (And.intro ((HS.out.chg0 ((Chg.refl [] wr).alloc _)).tab hc2.rw (by have := HLT.out; omega) (by have := HLT.out; omega)) (show w1.heap.size ≤ w2.heap.size by have := hc2.size; simp at *; omega)))
        go_roundw
        case rel => exact ⟨a + 1, l, by omega, by omega, by go_num, HFIN.out.1, HFIN.out.2.2, HFIN.out.2.1, HT2.out⟩
        case measure => simp [intOf]; omega
      · as_aux_lemma =>
        go_wp2_with (first
          | (go_at_call 17; refine (rremove_any (HS.out.chg0 ((Chg.refl [] wr).alloc _)) (HBS.out _) HR.out hl2 xk).mono ?_; rintro e w2 ⟨v2, rfl, hc2, hs2⟩; have HS2 := Lib.hid hs2; clear hs2; obtain ⟨q0, q1, q2, _, _, _, zq, hq⟩ := hc2.keep3 (blk_new wr _) (by simp))
          | (go_at_call 18; refine (remove_is (HT.out.chg0 (((Chg.refl [] wr).alloc _).trans hc2)) xk).mono ?_; rintro e w3 ⟨rfl, hc3, ht3⟩; have HT3 := Lib.hid ht3; clear ht3))
        have HFIN := Lib.hid (And.intro ((((HCW.out.alloc _).trans hc2).trans' hc3 HF.out)) (And.intro (HS2.out.tab hc3 (by have := HLT.out; omega) (by have := HLT.out; omega)) (show w1.heap.size ≤ w3.heap.size by have := hc2.size; have := hc3.size; simp at *; omega)))
        go_roundw
        case rel => exact ⟨a + 1, remL l xk, by omega, by omega, by go_num, HFIN.out.1, HFIN.out.2.2, HFIN.out.2.1, HT3.out⟩
        case measure => simp [intOf]; omega
      · as_aux_lemma =>
        have hxn : (∃ y, l[nextAt l xk]? = some y ∧ y.1 = true) ∨ l[nextAt l xk]? = none := by
          cases hy : l[nextAt l xk]? with
          | none => exact .inr rfl
          | some y => exact .inl ⟨y, rfl, HR.out.1 y (List.mem_of_getElem? hy)⟩
        obtain ⟨y, kk, hn1, hn2, hn3⟩ : ∃ (y : V) (kk : Bool), (l[nextAt l xk]?).getD MC.z.val = y ∧ (l[nextAt l xk]?).isSome = kk ∧ y.1 = kk := by
          rcases hxn with ⟨y, h1, h2⟩ | h1
          · exact ⟨y, true, by rw [h1]; rfl, by rw [h1]; rfl, h2⟩
          · exact ⟨MC.z.val, false, by rw [h1]; rfl, by rw [h1]; rfl, rfl⟩
        have hrn : ∀ w' v B, Sp w' B v l → Calls Try.prog 19 #[v, .string xk] w' fun e w'' => e = .returned (.tuple #[.agg #[.string y.2.1, .string y.2.2], .bool kk]) ∧ Chg [] w' w'' := fun w' v B h => by
          have := rnext_any h HR.out xk; rw [hn1, hn2] at this; exact this
        have HRN := Lib.hid hrn
        have HN := Lib.hid (And.intro hn1 hn2)
        obtain ⟨y1, y2, y3⟩ := y
        simp only at hn3
        subst hn3
        clear hxn hn1 hn2 hrn
        go_wp2_with (first
          | (go_at_call 11; refine (next_to (HT.out.chg0 ((Chg.refl [] wr).alloc _)) HN.out.1 HN.out.2).mono ?_; rintro e w2 ⟨rfl, hc2, ht2⟩; have HT2 := Lib.hid ht2; clear ht2; obtain ⟨q0, q1, q2, _, _, _, zq, hq⟩ := hc2.keep3 (blk_new wr _) (by have := HLT.out; simp; omega))
          | (go_at_call 19; refine (HRN.out _ _ _ (((HS.out.chg0 ((Chg.refl [] wr).alloc _)).tab hc2.rw (by have := HLT.out; omega) (by have := HLT.out; omega)).chg0 ((Chg.refl [] w2).alloc _))).mono ?_; rintro e w3 ⟨rfl, hc3⟩; obtain ⟨s0, s1, s2, _, _, _, zs, hs⟩ := hc3.keep3 (blk_new w2 _) (by simp)))
        have HFIN := Lib.hid (And.intro ((((HCW.out.alloc _).trans' hc2.rw HF.out).alloc _).trans hc3) (And.intro ((((HS.out.chg0 ((Chg.refl [] wr).alloc _)).tab hc2.rw (by have := HLT.out; omega) (by have := HLT.out; omega)).chg0 ((Chg.refl [] w2).alloc _)).chg0 hc3) (show w1.heap.size ≤ w3.heap.size + 1 by have := hc2.size; have := hc3.size; simp at *; omega)))
        have HT3 := Lib.hid ((HT2.out.chg0 ((Chg.refl [] w2).alloc _)).chg0 hc3)
        go_roundw
        case rel => exact ⟨a + 1, l, by omega, by omega, by go_num, HFIN.out.1.alloc _, by simpa using HFIN.out.2.2, HFIN.out.2.1.chg0 ((Chg.refl [] w3).alloc _), HT3.out.chg0 ((Chg.refl [] w3).alloc _)⟩
        case measure => simp [intOf]; omega
      · as_aux_lemma =>
        obtain ⟨p1, g1, cap1, rfl, hp1, _, hcap1, hmax1, _⟩ := HS.out.open
        have HP1 := Lib.hid hp1
        clear hp1
        have hgb1 : ∀ k, (Value.slice p1 l.length cap1).ownBlock = some k → k < wr.heap.size := fun k hk => (HS.out.lt k hk).2
        have HGB1 := Lib.hid hgb1
        clear hgb1
        have HBN := Lib.hid (show ((l.length : Int) != (l.length : Int)) = false by simp)
        go_wp2_with (go_at_call 10; refine (list_is (HT.out.chg0 ((Chg.refl [] wr).alloc _))).mono ?_; rintro e w2 ⟨v2, rfl, hc2, hs2, ht2⟩; have HT2 := Lib.hid ht2; clear ht2; (obtain ⟨p2, g2, cap2, rfl, hp2, hpp2, hgg2, hcap2, hmax2⟩ := hs2.openP); have HS2 := Lib.hid hs2; have HP2 := Lib.hid hp2; have HG2 := Lib.hid hgg2; have HPP2 := Lib.hid hpp2; clear hs2 hp2 hgg2 hpp2)
        have HSP := Lib.hid ((HS.out.chg0 ((Chg.refl [] wr).alloc (Obj.cells #[.int .i64 6, .string xk, .string xv] 46))).tab hc2.rw (by have := HLT.out; omega) (by have := HLT.out; omega))
        have HC2 := Lib.hid hc2
        clear hc2
        obtain ⟨wo, rfl⟩ : ∃ wo : World, wo = wr := ⟨_, rfl⟩
        go_loopw [233] (fun i wx => ∃ (c : Nat) (lm : List V), c ≤ l.length ∧ i = .int .i64 c ∧ Chg (Value.slice p2 l.length cap2).ownBlock.toList w2 wx ∧ Sl wx (wo.heap.size + 1) (.slice p2 l.length cap2) lm ∧ lm.length = l.length ∧ ∀ k, c ≤ k → lm[k]? = l[k]?) (fun i _ => l.length - (intOf i).toNat)
        case atStart => exact ⟨0, l, by omega, rfl, Chg.refl _ _, by have := HS2.out; simpa using this, rfl, fun _ _ => rfl⟩
        case round =>
          obtain ⟨c, lm, c1, rfl, hcx, hsx, hll, heq⟩ := hrel
          have HCX := Lib.hid hcx
          have HSX := Lib.hid hsx
          have HEQ := Lib.hid heq
          have HLL := Lib.hid hll
          have hgo : ∀ k, (Value.slice p2 l.length cap2).ownBlock = some k → wo.heap.size + 1 ≤ k := fun k hk => by
            rcases HPP2.out with h0 | h0
            · rw [h0] at hk; simp [Value.ownBlock] at hk
            · rw [h0] at hk; simp only [Value.ownBlock, Option.some.injEq] at hk
              have := (HG2.out h0).1
              simp at this; omega
          have HGO := Lib.hid hgo
          clear hcx hsx hll heq hgo
          by_cases hcl : c < l.length
          · obtain rfl := HP2.out (by omega)
            obtain ⟨rfl, _⟩ := HP1.out (by omega)
            obtain ⟨⟨y1, y2, y3⟩, hy⟩ : ∃ y, l[c]? = some y := ⟨l[c]'(by omega), List.getElem?_eq_getElem _⟩
            have hy1 : y1 = true := HR.out.1 _ (List.mem_of_getElem? hy)
            subst hy1
            obtain ⟨m0, m1, m2, mf, hgl⟩ := HSX.out.at3 c (true, y2, y3) (by rw [HEQ.out c (Nat.le_refl _)]; exact hy)
            have hspx := HSP.out.chg HCX.out (fun k hk e => by
              simp only [Option.mem_toList] at e
              have := HGO.out k e
              have := HGB1.out k hk
              omega)
            obtain ⟨s0, s1, hgs⟩ := hspx.at2 c (true, y2, y3) hy
            have hlx : lm[c]? = some (true, y2, y3) := by rw [HEQ.out c (Nat.le_refl _)]; exact hy
            have HLX := Lib.hid hlx
            simp only at m0 m1 m2 s0 s1
            clear hspx hlx hy
            go_wp2
            go_quiet (fail)
            go_wp2
            go_roundw
            case rel =>
              refine ⟨c + 1, lm.set c (true, ⟨#[115, 112, 111, 105, 108, 116]⟩, y3), by omega, by go_num, (HCX.out.drewN _).setCell _ _ (by simp [Value.ownBlock]), (HSX.out.chg0 ((Chg.refl [] _).drewN _)).setKey c _ _ HLX.out, by rw [List.length_set]; exact HLL.out, ?_⟩
              intro k hk
              rw [List.getElem?_set, if_neg (by omega)]
              exact HEQ.out k (by omega)
            case measure => simp [intOf]; omega
          · have HFIN := Lib.hid (And.intro (((HCW.out.alloc (Obj.cells #[.int .i64 6, .string xk, .string xv] 46)).trans' HC2.out.rw HF.out).trans' HCX.out (fun k hk => by simp only [Option.mem_toList] at hk; have := HGO.out k hk; have := HCW.out.size; exact .inr (by omega))) (And.intro (HSP.out.chg HCX.out (fun k hk e => by
              simp only [Option.mem_toList] at e
              have := HGO.out k e
              have := HGB1.out k hk
              omega)) (And.intro (show w1.heap.size ≤ wo.heap.size by omega) (HT2.out.chgF HCX.out (fun k hk => by
                simp only [Option.mem_toList] at hk
                have := HGO.out k hk
                have := HT.out.lts
                omega)))))
            go_wp2
            go_roundw
            case rel => exact ⟨a + 1, l, by omega, by omega, by go_num, HFIN.out.1, by have := HC2.out.size; have := HCX.out.size; simp at *; omega, HFIN.out.2.1, HFIN.out.2.2.2⟩
            case measure => simp [intOf]; omega
      · as_aux_lemma =>
        go_wp2
        go_roundw
        case rel => exact ⟨a + 1, l, by omega, by omega, by go_num, HCW.out.alloc _, HBS.out _, HS.out.chg0 ((Chg.refl [] wr).alloc _), HT.out.chg0 ((Chg.refl [] wr).alloc _)⟩
        case measure => simp [intOf]; omega
    · obtain ⟨p1, g1, cap1, rfl, hp1, _, hcap1, hmax1, _⟩ := HS.out.open
      have HP1 := Lib.hid hp1
      clear hp1
      have hex : (decide ((a : Int) < lo.length) && decide ((a : Int) < 120)) = false := by
        rw [Bool.and_eq_false_iff]
        by_cases h : a < lo.length
        · right; exact decide_eq_false (by omega)
        · left; exact decide_eq_false (by omega)
      by_cases hal : a < lo.length
      · have hal2 : ¬ a < 120 := by omega
        have hal3 : decide ((a : Int) < 120) = false := decide_eq_false (by omega)
        clear hex
        as_aux_lemma =>
        obtain ⟨wo, rfl⟩ : ∃ wo : World, wo = wr := ⟨_, rfl⟩
        go_wp2
        go_loopw [33] (fun i wy => ∃ c : Nat, c ≤ n ∧ i = .int .i64 c ∧ Chg [] w wy ∧ w1.heap.size ≤ wy.heap.size ∧ Sp wy w1.heap.size (.slice p1 l.length cap1) l ∧ TabIs wy b 0 (List.replicate 250 MC.z) 1 0 0 bx base n l) (fun i _ => n - (intOf i).toNat)
        case atStart => exact ⟨0, by omega, rfl, HCW.out, hsz, HS.out, HT.out⟩
        case round =>
          obtain ⟨c, c1, rfl, hcy, hszy, hsy, hty⟩ := hrel
          have HCY := Lib.hid hcy
          have HSY := Lib.hid hsy
          have HTY := Lib.hid hty
          clear hcy hsy hty
          by_cases hcn : c < n
          · have hiw : IntKind.i64.wrap ((base : Int) + (c : Int)) = (base : Int) + (c : Int) := IntWalk.i64_in _ (by omega)
            by_cases hcl : c < l.length
            · obtain ⟨rfl, _⟩ := HP1.out (by omega)
              obtain ⟨⟨y1, y2, y3⟩, hy⟩ : ∃ y, l[c]? = some y := ⟨l[c]'(by omega), List.getElem?_eq_getElem _⟩
              have hy1 : y1 = true := HR.out.1 _ (List.mem_of_getElem? hy)
              subst hy1
              obtain ⟨s0, s1, hgs⟩ := HSY.out.at2 c (true, y2, y3) hy
              have hpd : padV l c = (true, y2, y3) := by unfold padV; rw [hy]; rfl
              have HPD := Lib.hid hpd
              simp only at s0 s1
              clear hy hpd
              go_wp2
              go_region
              all_goals
                go_wp2_with (go_at_call 20; refine (read_to (HTY.out.chg0 ((Chg.refl [] wr).alloc _ |>.drew)) c hcn rfl HPD.out).mono ?_; rintro e w2 ⟨rfl, hc2, ht2⟩; obtain ⟨q0, q1, q2, _, _, _, zq, hq⟩ := hc2.keep3 (show ((wr.alloc (Obj.cells #[.bool true, .string y2, .string y3] 27)).drew).heap[wr.heap.size]? = some _ from blk_new wr _) (by have := HLT.out; simp; omega); have HT2 := Lib.hid ht2; clear ht2)
                have HFIN := Lib.hid (And.intro (((HCY.out.alloc _ |>.drew).trans' hc2.rw HF.out)) (And.intro ((HSY.out.chg0 ((Chg.refl [] wr).alloc _ |>.drew)).tab hc2.rw (by have := HLT.out; omega) (by have := HLT.out; omega)) (show w1.heap.size ≤ w2.heap.size by have := hc2.size; simp at *; omega)))
                go_roundw
                case rel => exact ⟨c + 1, by omega, by go_num, HFIN.out.1.alloc _, by have := HFIN.out.2.2; simp; omega, HFIN.out.2.1.chg0 ((Chg.refl [] w2).alloc _), HT2.out.chg0 ((Chg.refl [] w2).alloc _)⟩
                case measure => simp [intOf]; omega
            · have hpd : padV l c = (false, ByteArray.empty, ByteArray.empty) := by
                have : l[c]? = none := by simp; omega
                unfold padV; rw [this]; rfl
              have HPD := Lib.hid hpd
              clear hpd
              go_wp2_with (go_at_call 20; refine (read_to (HTY.out.chg0 ((Chg.refl [] wr).alloc _)) c hcn rfl HPD.out).mono ?_; rintro e w2 ⟨rfl, hc2, ht2⟩; obtain ⟨q0, q1, q2, _, _, _, zq, hq⟩ := hc2.keep3 (blk_new wr _) (by have := HLT.out; simp; omega); have HT2 := Lib.hid ht2; clear ht2)
              have HFIN := Lib.hid (And.intro (((HCY.out.alloc _).trans' hc2.rw HF.out)) (And.intro ((HSY.out.chg0 ((Chg.refl [] wr).alloc _)).tab hc2.rw (by have := HLT.out; omega) (by have := HLT.out; omega)) (show w1.heap.size ≤ w2.heap.size by have := hc2.size; simp at *; omega)))
              go_roundw
              case rel => exact ⟨c + 1, by omega, by go_num, HFIN.out.1.alloc _, by have := HFIN.out.2.2; simp; omega, HFIN.out.2.1.chg0 ((Chg.refl [] w2).alloc _), HT2.out.chg0 ((Chg.refl [] w2).alloc _)⟩
              case measure => simp [intOf]; omega
          · go_wp2_with (go_at_call 12; refine (awake_any _).mono ?_; rintro e w2 ⟨rfl, hc2⟩)
            go_ret
            exact ⟨rfl, HCY.out.trans hc2⟩
      · clear hex
        obtain ⟨wo, rfl⟩ : ∃ wo : World, wo = wr := ⟨_, rfl⟩
        go_wp2
        go_loopw [33] (fun i wy => ∃ c : Nat, c ≤ n ∧ i = .int .i64 c ∧ Chg [] w wy ∧ w1.heap.size ≤ wy.heap.size ∧ Sp wy w1.heap.size (.slice p1 l.length cap1) l ∧ TabIs wy b 0 (List.replicate 250 MC.z) 1 0 0 bx base n l) (fun i _ => n - (intOf i).toNat)
        case atStart => exact ⟨0, by omega, rfl, HCW.out, hsz, HS.out, HT.out⟩
        case round =>
          obtain ⟨c, c1, rfl, hcy, hszy, hsy, hty⟩ := hrel
          have HCY := Lib.hid hcy
          have HSY := Lib.hid hsy
          have HTY := Lib.hid hty
          clear hcy hsy hty
          by_cases hcn : c < n
          · have hiw : IntKind.i64.wrap ((base : Int) + (c : Int)) = (base : Int) + (c : Int) := IntWalk.i64_in _ (by omega)
            by_cases hcl : c < l.length
            · obtain ⟨rfl, _⟩ := HP1.out (by omega)
              obtain ⟨⟨y1, y2, y3⟩, hy⟩ : ∃ y, l[c]? = some y := ⟨l[c]'(by omega), List.getElem?_eq_getElem _⟩
              have hy1 : y1 = true := HR.out.1 _ (List.mem_of_getElem? hy)
              subst hy1
              obtain ⟨s0, s1, hgs⟩ := HSY.out.at2 c (true, y2, y3) hy
              have hpd : padV l c = (true, y2, y3) := by unfold padV; rw [hy]; rfl
              have HPD := Lib.hid hpd
              simp only at s0 s1
              clear hy hpd
              go_wp2
              go_region
              all_goals
                go_wp2_with (go_at_call 20; refine (read_to (HTY.out.chg0 ((Chg.refl [] wr).alloc _ |>.drew)) c hcn rfl HPD.out).mono ?_; rintro e w2 ⟨rfl, hc2, ht2⟩; obtain ⟨q0, q1, q2, _, _, _, zq, hq⟩ := hc2.keep3 (show ((wr.alloc (Obj.cells #[.bool true, .string y2, .string y3] 27)).drew).heap[wr.heap.size]? = some _ from blk_new wr _) (by have := HLT.out; simp; omega); have HT2 := Lib.hid ht2; clear ht2)
                have HFIN := Lib.hid (And.intro (((HCY.out.alloc _ |>.drew).trans' hc2.rw HF.out)) (And.intro ((HSY.out.chg0 ((Chg.refl [] wr).alloc _ |>.drew)).tab hc2.rw (by have := HLT.out; omega) (by have := HLT.out; omega)) (show w1.heap.size ≤ w2.heap.size by have := hc2.size; simp at *; omega)))
                go_roundw
                case rel => exact ⟨c + 1, by omega, by go_num, HFIN.out.1.alloc _, by have := HFIN.out.2.2; simp; omega, HFIN.out.2.1.chg0 ((Chg.refl [] w2).alloc _), HT2.out.chg0 ((Chg.refl [] w2).alloc _)⟩
                case measure => simp [intOf]; omega
            · have hpd : padV l c = (false, ByteArray.empty, ByteArray.empty) := by
                have : l[c]? = none := by simp; omega
                unfold padV; rw [this]; rfl
              have HPD := Lib.hid hpd
              clear hpd
              go_wp2_with (go_at_call 20; refine (read_to (HTY.out.chg0 ((Chg.refl [] wr).alloc _)) c hcn rfl HPD.out).mono ?_; rintro e w2 ⟨rfl, hc2, ht2⟩; obtain ⟨q0, q1, q2, _, _, _, zq, hq⟩ := hc2.keep3 (blk_new wr _) (by have := HLT.out; simp; omega); have HT2 := Lib.hid ht2; clear ht2)
              have HFIN := Lib.hid (And.intro (((HCY.out.alloc _).trans' hc2.rw HF.out)) (And.intro ((HSY.out.chg0 ((Chg.refl [] wr).alloc _)).tab hc2.rw (by have := HLT.out; omega) (by have := HLT.out; omega)) (show w1.heap.size ≤ w2.heap.size by have := hc2.size; simp at *; omega)))
              go_roundw
              case rel => exact ⟨c + 1, by omega, by go_num, HFIN.out.1.alloc _, by have := HFIN.out.2.2; simp; omega, HFIN.out.2.1.chg0 ((Chg.refl [] w2).alloc _), HT2.out.chg0 ((Chg.refl [] w2).alloc _)⟩
              case measure => simp [intOf]; omega
          · go_wp2_with (go_at_call 12; refine (awake_any _).mono ?_; rintro e w2 ⟨rfl, hc2⟩)
            go_ret
            exact ⟨rfl, HCY.out.trans hc2⟩
end Go.Proofs.Ytnijdnnnhkdjaaa
