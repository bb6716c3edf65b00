/- The contract of load. -/
import Derived.Test.YtnijdnnnhkdjaaaTabB
import Derived.Deep.DeepCutAuto
namespace Go.Proofs.Ytnijdnnnhkdjaaa
set_option linter.unusedSimpArgs false
set_option linter.unusedVariables false
open Go Go.RowKit Go.MapKept

set_option maxRecDepth 100000 in
set_option maxHeartbeats 1600000 in
theorem load_any {w : World} {b : At} {clk : Int} {cs : List MC} {own beg ver : Int} {R : List (Int × Int)} {W : List (Int × V)} {bx base n : Nat} (h : TxG w b clk cs own beg ver R W) (ht : TabR w bx b.t base n) (hn : base + n ≤ cs.length) :
    Calls Try.prog 30 #[.pointer (some ⟨bx, 0, none⟩)] w fun e w' => Chg [b.r] w w' ∧ (∃ R', TxG w' b clk cs own beg ver R' W) ∧
      ((rightB (vals cs W base n) = true ∧ ∃ v, e = .returned (.tuple #[v, .int .i64 0]) ∧ Sl w' w.heap.size v ((vals cs W base n).take (usedLen (vals cs W base n)))) ∨
       (rightB (vals cs W base n) = false ∧ e = .returned (.tuple #[.slice none 0 0, .int .i64 241]))) := by
  have hsm := h.small
  obtain ⟨c0, c1, c2, hl⟩ := ht.cells
  have hlt := h.tx.lts
  have HT := Lib.hid ht
  have H := Lib.hid h
  have hbr : bx ≠ b.r := by have := h.tx.sets.reads.ne_cells ht.hdr; exact this
  have HBR := Lib.hid hbr
  have HLT := Lib.hid hlt
  clear ht h hbr hlt
  obtain ⟨i0, hi0, hz0, hz1, hz2⟩ := info_parts info_V
  have HI := Lib.hid hi0; have HZ0 := Lib.hid hz0; have HZ1 := Lib.hid hz1; have HZ2 := Lib.hid hz2
  clear hi0 hz0 hz1 hz2
  go_enter Try.func30, Try.ntmps30
  go_wp2
  go_loopw [4, 21] (fun v i wr => ∃ a : Nat, a ≤ n ∧ i = .int .i64 a ∧ Chg [b.r] w wr ∧ (∃ R', TxG wr b clk cs own beg ver R' W) ∧ Sl wr w.heap.size v (vals cs W base a)) (fun _ i _ => n - (intOf i).toNat)
  case atStart => exact ⟨0, by omega, rfl, Chg.refl _ _, ⟨R, H.out⟩, World.ownsRow_nil _ _ _ _⟩
  case round =>
    obtain ⟨a, h1, rfl, hcw, ⟨R', hg⟩, hs⟩ := hrel
    have HT1 : TabR wr bx b.t base n := ⟨hcw.at HT.out.hdr (by simpa using HBR.out)⟩
    obtain ⟨d0, d1, d2, hl1⟩ := HT1.cells
    have HCW := Lib.hid hcw
    have HG := Lib.hid hg
    have HS := Lib.hid hs
    clear hcw hg hs HT1
    by_cases hab : a < n
    · have r1 : IntKind.i64.wrap ((base : Int) + (a : Int)) = ((base + a : Nat) : Int) := by rw [IntWalk.i64_in _ (by omega)]; omega
      have HR : ∀ w', TxG w' b clk cs own beg ver R' W → Calls Try.prog 20 #[.pointer (some ⟨b.t, 0, none⟩), .int .i64 ((base : Int) + (a : Int))] w' fun e w'' => e = .returned (.tuple #[.agg #[.bool (curV cs W (base + a)).1, .string (curV cs W (base + a)).2.1, .string (curV cs W (base + a)).2.2], .int .i64 0]) ∧ Chg [b.r] w' w'' ∧ ∃ R'', TxG w'' b clk cs own beg ver R'' W :=
        fun w' h' => by
          have := gread h' (base + a) (by omega); rw [show ((base + a : Nat) : Int) = (base : Int) + (a : Int) by omega] at this; exact this
      have HRD := Lib.hid HR
      clear HR
      go_upto_region 7 with fail
      go_cut [6, 7] (fun s6 s7 wx => ∃ g : Nat, s6 = .pointer (some ⟨g, 0, none⟩) ∧ s7 = .int .i64 0 ∧ wr.heap.size ≤ g ∧ wx.heap[g]? = some (.cells #[.bool (curV cs W (base + a)).1, .string (curV cs W (base + a)).2.1, .string (curV cs W (base + a)).2.2] 27 (0, 0)) ∧ Chg [b.r] wr wx ∧ ∃ R'', TxG wx b clk cs own beg ver R'' W)
      case first =>
        go_region_with (go_at_call 20; refine (HRD.out _ (HG.out.chg0 (by repeat (first | exact Chg.refl _ _ | refine Chg.drew ?_ | refine Chg.alloc ?_ _)))).mono ?_; rintro e w1 ⟨rfl, hc1, R'', hg1⟩; have HG1 := Lib.hid hg1; clear hg1; first | (obtain ⟨q0, q1, q2, p0, p1, p2, hz, hq⟩ := hc1.keep3 (blk_new wr _) (by have := HG.out.tx.sets.reads.lt; simp; omega)) | skip)
        all_goals (go_wp2_with fail; go_meet)
        all_goals
          have hlts := HG.out.tx.lts
          first
            | exact ⟨wr.heap.size, rfl, rfl, Nat.le_refl _, box3 hq _ _ _, ((((Chg.refl [b.r] wr).alloc _).drew.trans hc1).setCell _ _ (.inr (Nat.le_refl _)) |>.setCell _ _ (.inr (Nat.le_refl _)) |>.setCell _ _ (.inr (Nat.le_refl _))), R'', HG1.out.chg1 (chg3 w1 wr.heap.size _ _ _) (by omega)⟩
            | exact ⟨w1.heap.size, rfl, rfl, hc1.size, blk_new _ _, ((Chg.refl [b.r] wr).drew.trans hc1).alloc _, R'', HG1.out.chg0 ((Chg.refl [] _).alloc _)⟩
      case rest =>
        obtain ⟨gx, rfl, rfl, hgx, hbx, hcx, R2, hg2⟩ := hcut
        obtain ⟨q0, q1, q2, _, _, _, hz, hq⟩ := (Chg.refl [] wc).keep3 hbx (by simp)
        have hbrl := HG.out.tx.lts.2.2.2.2.1
        have HSX : Sl wc w.heap.size u4 (vals cs W base a) := HS.out.chg hcx (by
          intro k hk e
          simp only [List.mem_singleton] at e
          have := (World.ownsRow.lt HS.out) k hk
          have := HLT.out
          omega)
        have HSY := Lib.hid HSX
        have HCX := Lib.hid hcx
        have HG2 := Lib.hid hg2
        have hszw : w.heap.size ≤ wc.heap.size := Nat.le_trans HCW.out.size hcx.size
        have hown : ∀ o, (wc.alloc o).ownsRow w.heap.size 27 3 u4 a ((vals cs W base a).flatMap encV) := fun o => by
          have := (HSY.out.chg0 ((Chg.refl [] wc).alloc o)); unfold Sl at this; rwa [length_vals] at this
        have HOWN := Lib.hid hown
        have hnew : ∀ j u, (encV (curV cs W (base + a)))[j]? = some u → (wc.alloc (.cells #[.bool (curV cs W (base + a)).1, .string (curV cs W (base + a)).2.1, .string (curV cs W (base + a)).2.2] 27)).cell? ((⟨wc.heap.size, 0, none⟩ : Addr).add j) = some u :=
          fun j u hu => by have := cells_from_row (cs := encV (curV cs W (base + a))) (o := 0) (cur := encV (curV cs W (base + a))) (blk_new wc (.cells (encV (curV cs W (base + a))).toArray 27 (0, 0))) (by simp); exact this j u hu
        have HNEW := Lib.hid hnew
        clear HSX hcx hg2 hbx hown hnew
        go_wp2_with (at_builtin; refine wpList_append_own _ rfl _ _ 35 rfl w.heap.size 27 i0 _ 3 40 Try.underlying35 HI.out HZ0.out HZ1.out HZ2.out rfl (by decide) u4 a ((vals cs W base a).flatMap encV) rfl (HOWN.out _) ⟨wc.heap.size, 0, none⟩ 1 1 (encV (curV cs W (base + a))) rfl rfl HNEW.out (one_enc _) (by unfold maxLen; omega) (by omega) (by simp; omega) ?_; intro v1 w1 hown1 hgrow1 _)
        all_goals
          have hs1 : Sl w1 w.heap.size v1 (vals cs W base (a + 1)) := by
            unfold Sl; rw [length_vals, vals_succ, List.flatMap_append]; simpa using hown1
          have hgr : Chg [] wc w1 ∨ ∃ k, u4.ownBlock = some k ∧ w.heap.size ≤ k ∧ Chg [k] wc w1 := by
            cases hu : u4.ownBlock with
            | none => left; exact ((Chg.refl [] wc).alloc _).grown hgrow1 (by rw [hu]; simp)
            | some k => right; exact ⟨k, rfl, ((World.ownsRow.lt HSY.out) k hu).1, ((Chg.refl [k] wc).alloc _).grown hgrow1 (by rw [hu]; simp)⟩
          have hG3 : TxG w1 b clk cs own beg ver R2 W := by
            rcases hgr with hg | ⟨k, _, hk, hg⟩
            · exact HG2.out.chg0 hg
            · have := HLT.out
              exact HG2.out.chg1 hg (by omega)
          have hC3 : Chg [b.r] w w1 := by
            refine (HCW.out.trans HCX.out).trans' (T := u4.ownBlock.toList) ?_ ?_
            · rcases hgr with hg | ⟨k, hk0, hk, hg⟩
              · exact hg.of_nil
              · rw [hk0]; exact hg
            · intro x hx
              simp only [Option.mem_toList] at hx
              exact .inr ((World.ownsRow.lt HSY.out) x hx).1
          clear hgr hown1 hgrow1
          have HF := Lib.hid (And.intro hs1 (And.intro hG3 hC3))
          clear hs1 hG3 hC3
          go_wp2
          go_roundw
          case rel => exact ⟨a + 1, by omega, by go_num, HF.out.2.2, ⟨R2, HF.out.2.1⟩, HF.out.1⟩
          case measure => simp [intOf]; omega
    · obtain rfl : a = n := by omega
      have HRT := fun w' (hc : Chg [] wr w') => tabright_any (HS.out.chg0 hc) (by rw [length_vals]; omega)
      cases hrb : rightB (vals cs W base a) with
      | false =>
        have HRT2 := Lib.hid HRT
        clear HRT
        have HRB := Lib.hid hrb
        rw [hrb] at HRT2
        clear hrb
        go_wp2_with (go_at_call 22; refine (HRT2.out _ (Chg.refl _ _)).mono ?_; rintro e w1 ⟨rfl, hc1⟩)
        go_ret2
        exact ⟨HCW.out.trans hc1.of_nil, ⟨R', HG.out.chg0 hc1⟩, .inr ⟨HRB.out, rfl⟩⟩
      | true =>
        have HRT2 := Lib.hid HRT
        clear HRT
        have HRB := Lib.hid hrb
        rw [hrb] at HRT2
        clear hrb
        have HDF : ∀ w', Chg [] wr w' → Calls Try.prog 45 #[u4, .func (.func 46) #[] #[]] w' fun e w'' => ∃ v', e = .returned v' ∧ Sl w'' w.heap.size v' ((vals cs W base a).take (usedLen (vals cs W base a))) ∧ v'.ownBlock = u4.ownBlock ∧ Chg u4.ownBlock.toList w' w'' := fun w' hc =>
          delfunc_any (HS.out.chg0 hc) (usedLen (vals cs W base a)) (usedLen_le _) (by rw [length_vals]; omega) (right_used HRB.out)
        have HDF2 := Lib.hid HDF
        clear HDF
        go_wp2_with (first | (go_at_call 22; refine (HRT2.out _ (Chg.refl _ _)).mono ?_; rintro e w1 ⟨rfl, hc1⟩) | (go_at_call 45; refine (HDF2.out _ hc1).mono ?_; rintro e w2 ⟨v2, rfl, hs2, ho2, hc2⟩))
        go_ret2
        have hlt := HLT.out
        have hfr : ∀ x ∈ u4.ownBlock.toList, w.heap.size ≤ x := fun x hx => by
          simp only [Option.mem_toList] at hx
          exact ((World.ownsRow.lt HS.out) x hx).1
        refine ⟨(HCW.out.trans hc1.of_nil).trans' hc2 (fun x hx => .inr (hfr x hx)), ⟨R', (HG.out.chg0 hc1).chgF hc2 (fun x hx => by have := hfr x hx; omega)⟩, .inl ⟨HRB.out, v2, rfl, hs2⟩⟩
end Go.Proofs.Ytnijdnnnhkdjaaa
