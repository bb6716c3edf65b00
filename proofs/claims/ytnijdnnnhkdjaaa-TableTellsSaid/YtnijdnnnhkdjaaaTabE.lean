/- The contract of save at a slice that is not nil. -/
import Derived.Test.YtnijdnnnhkdjaaaTabD
namespace Go.Proofs.Ytnijdnnnhkdjaaa
set_option linter.unusedSimpArgs false
set_option linter.unusedVariables false
open Go Go.RowKit Go.MapKept

set_option maxRecDepth 100000 in
set_option maxHeartbeats 30000000 in
theorem save_some {w : World} {b : At} {clk : Int} {cs : List MC} {own beg ver : Int} {R : List (Int × Int)} {W : List (Int × V)} {bx base n B : Nat} {g cap : Nat} {l : List V} (h : TxG w b clk cs own beg ver R W) (ht : TabR w bx b.t base n) (hn : base + n ≤ cs.length)
    (hs : Sl w B (.slice (some ⟨g, 0, none⟩) l.length cap) l) (hB : b.t < B ∧ b.m < B ∧ b.c < B ∧ b.s < B ∧ b.r < B ∧ b.w < B) (hll : l.length ≤ 1000) :
    Calls Try.prog 33 #[.pointer (some ⟨bx, 0, none⟩), .slice (some ⟨g, 0, none⟩) l.length cap] w fun e w' => e = .returned (.int .i64 0) ∧ Chg [b.r, b.w] w w' ∧ ∃ R' W', TxG w' b clk cs own beg ver R' W' ∧ ∀ j, curV cs W' j = if base ≤ j ∧ j < base + n then padV l (j - base) else curV cs W j := by
  have hsm := h.small
  obtain ⟨c0, c1, c2, hl⟩ := ht.cells
  have HT := Lib.hid ht
  have H := Lib.hid h
  have hbr : bx ≠ b.r ∧ bx ≠ b.w := ⟨h.tx.sets.reads.ne_cells ht.hdr, h.tx.sets.writes.ne_cells ht.hdr⟩
  have HBR := Lib.hid hbr
  have HSL := Lib.hid hs
  have hcap : l.length ≤ cap ∧ cap ≤ 9223372036854775807 := by
    rcases hs.open with ⟨hv, _⟩ | ⟨g, cap, hv, _, _, hcap, hmax, _⟩
    · simp at hv
    · simp only [Value.slice.injEq] at hv
      unfold maxLen at hmax
      omega
  have HBB := Lib.hid hB
  clear ht h hbr hs hB
  go_enter Try.func33, Try.ntmps33
  go_wp2
  go_loopw [14] (fun i wr => ∃ a : Nat, a ≤ n ∧ i = .int .i64 a ∧ Chg [b.r, b.w] w wr ∧ ∃ R' W', TxG wr b clk cs own beg ver R' W' ∧ ∀ j, curV cs W' j = if base ≤ j ∧ j < base + a then padV l (j - base) else curV cs W j) (fun i _ => n - (intOf i).toNat)
  case atStart => exact ⟨0, by omega, rfl, Chg.refl _ _, R, W, H.out, fun j => by rw [if_neg (by omega)]⟩
  case round =>
    obtain ⟨a, h1, rfl, hcw, R1, W1, hg, hcur⟩ := hrel
    have HT1 : TabR wr bx b.t base n := ⟨hcw.at HT.out.hdr (by simpa using HBR.out)⟩
    obtain ⟨d0, d1, d2, hl1⟩ := HT1.cells
    have HS1 : Sl wr B (.slice (some ⟨g, 0, none⟩) l.length cap) l := HSL.out.chg hcw (by
      intro k hk e
      have h1 := (World.ownsRow.lt HSL.out) k hk
      have h2 := HBB.out
      simp only [List.mem_cons, List.not_mem_nil, or_false] at e
      omega)
    have HCW := Lib.hid hcw
    have HG := Lib.hid hg
    have HCUR := Lib.hid hcur
    have HS := Lib.hid HS1
    have hlts := hg.tx.lts
    have HLT := Lib.hid hlts
    clear hcw hg hcur HT1 HS1 hlts
    by_cases hab : a < n
    · obtain ⟨⟨u1, u2, u3⟩, hu⟩ : ∃ u, curV cs W1 (base + a) = u := ⟨_, rfl⟩
      have r1 : IntKind.i64.wrap ((base : Int) + (a : Int)) = (base : Int) + (a : Int) := IntWalk.i64_in _ (by omega)
      have hread : ∀ w', TxG w' b clk cs own beg ver R1 W1 → Calls Try.prog 20 #[.pointer (some ⟨b.t, 0, none⟩), .int .i64 ((base : Int) + (a : Int))] w' fun e w'' => e = .returned (.tuple #[.agg #[.bool u1, .string u2, .string u3], .int .i64 0]) ∧ Chg [b.r] w' w'' ∧ ∃ R'', TxG w'' b clk cs own beg ver R'' W1 :=
        fun w' h' => by
          have := gread h' (base + a) (by omega); rw [show ((base + a : Nat) : Int) = (base : Int) + (a : Int) by omega, hu] at this; exact this
      have HRD := Lib.hid hread
      have HU := Lib.hid hu
      clear hread hu
      obtain ⟨⟨x1, x2, x3⟩, hxp⟩ : ∃ x, padV l a = x := ⟨_, rfl⟩
      have HX := Lib.hid hxp
      clear hxp
      go_upto_if 20 with fail
      go_cut [6] (fun s6 wx => s6 = .pointer (some ⟨wr.heap.size, 0, none⟩) ∧ ∃ wy : World, wx = wy ∧ wy = wr.alloc (.cells #[.bool x1, .string x2, .string x3] 27))
      case first =>
        by_cases hal : a < l.length
        · have hcell : wr.cell? ⟨g, a * 3, none⟩ = some (.bool x1) ∧ wr.cell? ⟨g, a * 3 + 1, none⟩ = some (.string x2) ∧ wr.cell? ⟨g, a * 3 + 2, none⟩ = some (.string x3) := by
            have hxp := HX.out
            rcases HS.out.open with ⟨hv, hl0⟩ | ⟨g', cap', hv, _, _, _, _, hc⟩
            · simp at hv
            · simp only [Value.slice.injEq, Option.some.injEq, Addr.mk.injEq] at hv
              obtain ⟨⟨rfl, _⟩, _, rfl⟩ := hv
              have hx : l[a]? = some (x1, x2, x3) := by
                unfold padV at hxp; rw [List.getElem?_eq_getElem hal] at hxp ⊢; simpa using hxp
              obtain ⟨k0, k1, k2, _⟩ := hc a _ hx
              exact ⟨k0, k1, k2⟩
          obtain ⟨k0, k1, k2⟩ := hcell
          have hgr : g < wr.heap.size := World.block_lt_of_cell? _ _ k0
          go_wp2_with fail
          go_meet
          exact ⟨rfl, _, rfl, rfl⟩
        · have hz : (x1, x2, x3) = (false, ByteArray.empty, ByteArray.empty) := by
            rw [← HX.out]
            have : l[a]? = none := by simp; omega
            unfold padV; rw [this]; rfl
          have HZ := Lib.hid hz
          clear hz
          go_wp2_with fail
          go_meet
          have hz := HZ.out
          simp only [Prod.mk.injEq] at hz
          exact ⟨rfl, _, rfl, by rw [hz.1, hz.2.1, hz.2.2]; rfl⟩
      case rest =>
      obtain ⟨rfl, wy, hwx, hwy⟩ := hcut
      subst hwx
      subst hwy
      go_upto_region 7 with fail
      go_cut [7, 8] (fun s7 s8 wx => ∃ g7 : Nat, s7 = .pointer (some ⟨g7, 0, none⟩) ∧ s8 = .int .i64 0 ∧ wx.heap[g7]? = some (.cells #[.bool u1, .string u2, .string u3] 27 (0, 0)) ∧ wx.heap[wr.heap.size]? = some (.cells #[.bool x1, .string x2, .string x3] 27 (0, 0)) ∧ Chg [b.r] wr wx ∧ ∃ R'', TxG wx b clk cs own beg ver R'' W1)
      case first =>
        go_region_with (go_at_call 20; refine (HRD.out _ (HG.out.chg0 (by repeat (first | exact Chg.refl _ _ | refine Chg.drew ?_ | refine Chg.alloc ?_ _)))).mono ?_; rintro e w1 ⟨rfl, hc1, R'', hg1⟩; have HG1 := Lib.hid hg1; clear hg1; first | (obtain ⟨q0, q1, q2, p0, p1, p2, hz, hq⟩ := hc1.keep3 (blk_new (wr.alloc _) _) (by have := HLT.out; simp; omega); simp only [heap_size_alloc1] at q0 q1 q2 p0 p1 p2 hz hq) | skip)
        all_goals (go_wp2_with fail; go_meet)
        all_goals
          have hlts := HLT.out
          first
            | (have hxx := hc1.at (blk_alloc (blk_new wr (.cells #[.bool x1, .string x2, .string x3] 27)) _) (by simp; omega); exact ⟨wr.heap.size + 1, rfl, rfl, box3 hq _ _ _, (chg3 w1 (wr.heap.size + 1) _ _ _).at hxx (by simp), (((((Chg.refl [b.r] wr).alloc _).alloc _).drew.trans hc1).setCell _ _ (.inr (by simp)) |>.setCell _ _ (.inr (by simp)) |>.setCell _ _ (.inr (by simp))), R'', HG1.out.chg1 (chg3 w1 (wr.heap.size + 1) _ _ _) (by omega)⟩)
            | exact ⟨w1.heap.size, rfl, rfl, blk_new _ _, blk_alloc (hc1.at (blk_new wr (.cells #[.bool x1, .string x2, .string x3] 27)) (by simp; omega)) _, (((Chg.refl [b.r] wr).alloc _).drew.trans hc1).alloc _, R'', HG1.out.chg0 ((Chg.refl [] _).alloc _)⟩
      case rest =>
        obtain ⟨g7, rfl, rfl, hb7, hb6, hcx, R2, hg2⟩ := hcut
        obtain ⟨q0, q1, q2, _, _, _, hz7, hq7⟩ := (Chg.refl [] wc).keep3 hb7 (by simp)
        obtain ⟨p0, p1, p2, _, _, _, hz6, hq6⟩ := (Chg.refl [] wc).keep3 hb6 (by simp)
        have HT2 : TabR wc bx b.t base n := ⟨hcx.at (HCW.out.at HT.out.hdr (by simpa using HBR.out)) (by simpa using HBR.out.1)⟩
        obtain ⟨m0, m1, m2, hl2⟩ := HT2.cells
        have HCX := Lib.hid hcx
        have HG2 := Lib.hid hg2
        clear hcx hg2 hb7 hb6 HT2 hq7 hq6
        have hwrite : ∀ w', TxG w' b clk cs own beg ver R2 W1 → Calls Try.prog 23 #[.pointer (some ⟨b.t, 0, none⟩), .int .i64 ((base : Int) + (a : Int)), .agg #[.bool x1, .string x2, .string x3]] w' fun e w'' => e = .returned (.int .i64 0) ∧ Chg [b.w] w' w'' ∧ TxG w'' b clk cs own beg ver R2 (putK ((base : Int) + (a : Int)) (x1, x2, x3) W1) :=
          fun w' h' => by
            have := gwrite h' (base + a) (x1, x2, x3) (by omega); rw [show ((base + a : Nat) : Int) = (base : Int) + (a : Int) by omega] at this; exact this
        have HWR := Lib.hid hwrite
        clear hwrite
        rcases val_cases (u1, u2, u3) (x1, x2, x3) with e | n1 | ⟨e1, n2⟩ | ⟨e1, e2, n3⟩
        · simp only [Prod.mk.injEq] at e
          obtain ⟨rfl, rfl, rfl⟩ := e
          clear r1
          go_wp2
          go_roundw
          case rel => exact ⟨a + 1, by omega, by go_num, HCW.out.trans (HCX.out.mono (fun k _ hk => by simp at hk ⊢; exact .inl hk)), R2, W1, HG2.out, cur_eq HCUR.out (HU.out.trans HX.out.symm)⟩
          case measure => simp [intOf]; omega
        · have n1 : ¬ u1 = x1 := n1
          clear r1
          go_upto_region 9 with fail
          go_cut [9] (fun s9 wx => s9 = .int .i64 0 ∧ Chg [b.w] wc wx ∧ TxG wx b clk cs own beg ver R2 (putK ((base : Int) + (a : Int)) (x1, x2, x3) W1))
          case first =>
            have r1 : IntKind.i64.wrap ((base : Int) + (a : Int)) = (base : Int) + (a : Int) := IntWalk.i64_in _ (by omega)
            go_region_with (go_at_call 23; refine (HWR.out _ (HG2.out.chg0 (by repeat (first | exact Chg.refl _ _ | refine Chg.drew ?_ | refine Chg.alloc ?_ _)))).mono ?_; rintro e w1 ⟨rfl, hc1, hg1⟩; have HG1 := Lib.hid hg1; clear hg1)
            all_goals (go_wp2_with fail; go_meet)
            all_goals exact ⟨rfl, (Chg.refl [b.w] wc).drew.trans hc1, HG1.out⟩
          case rest =>
            obtain ⟨rfl, hcy, hg3⟩ := hcut
            have HCY := Lib.hid hcy
            have HG3 := Lib.hid hg3
            clear hcy hg3
            go_wp2
            go_roundw
            case rel => exact ⟨a + 1, by omega, by go_num, (HCW.out.trans (HCX.out.mono (fun k _ hk => by simp at hk ⊢; exact .inl hk))).trans (HCY.out.mono (fun k _ hk => by simp at hk ⊢; exact .inr hk)), R2, _, HG3.out, cur_put HCUR.out HX.out⟩
            case measure => simp [intOf]; omega
        · have e1 : u1 = x1 := e1
          subst e1
          have n2 : ¬ u2.toList = x2.toList := n2
          clear r1
          go_upto_region 9 with fail
          go_cut [9] (fun s9 wx => s9 = .int .i64 0 ∧ Chg [b.w] wc wx ∧ TxG wx b clk cs own beg ver R2 (putK ((base : Int) + (a : Int)) (u1, x2, x3) W1))
          case first =>
            have r1 : IntKind.i64.wrap ((base : Int) + (a : Int)) = (base : Int) + (a : Int) := IntWalk.i64_in _ (by omega)
            go_region_with (go_at_call 23; refine (HWR.out _ (HG2.out.chg0 (by repeat (first | exact Chg.refl _ _ | refine Chg.drew ?_ | refine Chg.alloc ?_ _)))).mono ?_; rintro e w1 ⟨rfl, hc1, hg1⟩; have HG1 := Lib.hid hg1; clear hg1)
            all_goals (go_wp2_with fail; go_meet)
            all_goals exact ⟨rfl, (Chg.refl [b.w] wc).drew.trans hc1, HG1.out⟩
          case rest =>
            obtain ⟨rfl, hcy, hg3⟩ := hcut
            have HCY := Lib.hid hcy
            have HG3 := Lib.hid hg3
            clear hcy hg3
            go_wp2
            go_roundw
            case rel => exact ⟨a + 1, by omega, by go_num, (HCW.out.trans (HCX.out.mono (fun k _ hk => by simp at hk ⊢; exact .inl hk))).trans (HCY.out.mono (fun k _ hk => by simp at hk ⊢; exact .inr hk)), R2, _, HG3.out, cur_put HCUR.out HX.out⟩
            case measure => simp [intOf]; omega
        · have e1 : u1 = x1 := e1
          subst e1
          have e2 : u2 = x2 := e2
          subst e2
          have n3 : ¬ u3.toList = x3.toList := n3
          clear r1
          go_upto_region 9 with fail
          go_cut [9] (fun s9 wx => s9 = .int .i64 0 ∧ Chg [b.w] wc wx ∧ TxG wx b clk cs own beg ver R2 (putK ((base : Int) + (a : Int)) (u1, u2, x3) W1))
          case first =>
            have r1 : IntKind.i64.wrap ((base : Int) + (a : Int)) = (base : Int) + (a : Int) := IntWalk.i64_in _ (by omega)
            go_region_with (go_at_call 23; refine (HWR.out _ (HG2.out.chg0 (by repeat (first | exact Chg.refl _ _ | refine Chg.drew ?_ | refine Chg.alloc ?_ _)))).mono ?_; rintro e w1 ⟨rfl, hc1, hg1⟩; have HG1 := Lib.hid hg1; clear hg1)
            all_goals (go_wp2_with fail; go_meet)
            all_goals exact ⟨rfl, (Chg.refl [b.w] wc).drew.trans hc1, HG1.out⟩
          case rest =>
            obtain ⟨rfl, hcy, hg3⟩ := hcut
            have HCY := Lib.hid hcy
            have HG3 := Lib.hid hg3
            clear hcy hg3
            go_wp2
            go_roundw
            case rel => exact ⟨a + 1, by omega, by go_num, (HCW.out.trans (HCX.out.mono (fun k _ hk => by simp at hk ⊢; exact .inl hk))).trans (HCY.out.mono (fun k _ hk => by simp at hk ⊢; exact .inr hk)), R2, _, HG3.out, cur_put HCUR.out HX.out⟩
            case measure => simp [intOf]; omega
    · obtain rfl : a = n := by omega
      go_wp2
      go_ret
      exact ⟨rfl, HCW.out, R1, W1, HG.out, HCUR.out⟩

end Go.Proofs.Ytnijdnnnhkdjaaa
