/- A transaction (layer 16) at entries: the contracts of its reading and writing, and of its making. -/
import Derived.Test.YtnijdnnnhkdjaaaTxA
namespace Go.Proofs.Ytnijdnnnhkdjaaa
set_option linter.unusedSimpArgs false
set_option linter.unusedVariables false
open Go Go.RowKit Go.MapKept

section
variable {w : World} {b : At} {clk : Int} {cs : List MC} {own beg st ver : Int} {R : List (Int × Int)} {W : List (Int × V)}

set_option maxRecDepth 100000 in
set_option maxHeartbeats 400000 in
theorem tread_w (h : TxR w b clk cs own beg 1 ver R W) (i : Int) (h0 : 0 ≤ i) (h1 : i < cs.length) (v : V) (hv : lookK i W = some v) :
    Calls Try.prog 20 #[.pointer (some ⟨b.t, 0, none⟩), .int .i64 i] w fun e w' => e = .returned (.tuple #[valV v, .int .i64 0]) ∧ Chg [] w w' := by
  obtain ⟨c0, c1, c2, c3, c4, hl⟩ := h.cells
  have H := Lib.hid h
  clear h
  have HV : ∀ w', TxR w' b clk cs own beg 1 ver R W → Calls Try.prog 37 #[.pointer (some ⟨b.s, 0, none⟩), .int .i64 i] w' fun e w'' => e = .returned (.tuple #[.agg #[.bool v.1, .string v.2.1, .string v.2.2], .bool true]) ∧ Chg [] w' w'' := fun w' h' => by
    have := value_any h'.sets i; rw [hv] at this; exact this
  have HV0 := HV; clear HV; have HV := Lib.hid HV0; clear HV0
  clear hv
  go_enter Try.func20, Try.ntmps20
  go_wp2_with (first | (go_at_call 36; refine (topen_ok (H.out.chg0 ((Chg.refl [] _).alloc _ |>.alloc _)) i h0 h1).mono ?_; rintro e w' ⟨rfl, rfl⟩) | (go_at_call 37; refine (HV.out _ (H.out.chg0 ((Chg.refl [] _).alloc _ |>.alloc _))).mono ?_; rintro e w1 ⟨rfl, hc1⟩; have hz1 : w.heap.size < w1.heap.size := (by have := hc1.size; simp at this; omega); obtain ⟨k1, k2⟩ := hc1.cells0; have q0 := k1 w.heap.size 0 (by simp; omega); have q1 := k1 w.heap.size 1 (by simp; omega); have q2 := k1 w.heap.size 2 (by simp; omega); have p0 := k2 w.heap.size 0 (by simp; omega); have p1 := k2 w.heap.size 1 (by simp; omega); have p2 := k2 w.heap.size 2 (by simp; omega); clear k1 k2; simp [go_sem] at q0 q1 q2 p0 p1 p2))
  refine bodyPost_ret (v := .tuple #[valV v, .int .i64 0]) (by simp [results, Try.results20, go_sem, valV, hz1, q0, q1, q2]) rfl ⟨rfl, ?_⟩
  have hc := ((Chg.refl [] w).alloc _ |>.alloc _).trans hc1
  repeat (first | exact hc | refine Chg.drew ?_ | refine Chg.drewN ?_ _ | refine Chg.alloc ?_ _ | refine Chg.setCell ?_ _ _ (by first | (left; simp; done) | (right; simp)))

set_option maxRecDepth 100000 in
set_option maxHeartbeats 400000 in
theorem twrite_any (h : TxR w b clk cs own beg 1 ver R W) (i : Int) (v : V) (h0 : 0 ≤ i) (h1 : i < cs.length) (hm : cs.length ≤ 1024) (hn : lookK i W = none → W.length < 256) :
    Calls Try.prog 23 #[.pointer (some ⟨b.t, 0, none⟩), .int .i64 i, valV v] w fun e w' => e = .returned (.int .i64 0) ∧ Chg [b.w] w w' ∧ TxR w' b clk cs own beg 1 ver R (putK i v W) := by
  obtain ⟨c0, c1, c2, c3, c4, hl⟩ := h.cells
  have H := Lib.hid h
  clear h
  have HW : ∀ w', TxR w' b clk cs own beg 1 ver R W → Calls Try.prog 42 #[.pointer (some ⟨b.s, 0, none⟩), .int .i64 i, .agg #[.bool v.1, .string v.2.1, .string v.2.2]] w' fun e w'' => e = .returned (.int .i64 0) ∧ Chg [b.w] w' w'' ∧ SetsR w'' b.s b.r b.w R (putK i v W) := fun w' h' => by
    cases hv : lookK i W with
    | none => exact write_new h'.sets i v h0 (by omega) hv (hn hv)
    | some u => exact write_old h'.sets i v u h0 (by omega) hv
  have HW0 := HW; clear HW; have HW := Lib.hid HW0; clear HW0
  clear hn
  unfold valV
  go_enter Try.func23, Try.ntmps23
  go_wp2_with (first | (go_at_call 36; refine (topen_ok (H.out.chg0 ((Chg.refl [] _).alloc _)) i h0 h1).mono ?_; rintro e w' ⟨rfl, rfl⟩) | (go_at_call 42; refine (HW.out _ (H.out.chg0 ((Chg.refl [] _).alloc _))).mono ?_; rintro e w1 ⟨rfl, hc1, hs1⟩))
  go_region_with (go_at_call 42; refine (HW.out _ (H.out.chg0 (by exact ((Chg.refl [] _).alloc _ |>.drew)))).mono ?_; rintro e w1 ⟨rfl, hc1, hs1⟩)
  all_goals go_wp2
  all_goals go_ret
  all_goals
    have hc := ((Chg.refl [b.w] w).alloc _ |>.drew).trans hc1
    exact ⟨rfl, hc, H.out.write_blk hc hs1⟩

set_option maxHeartbeats 400000 in
theorem tbegin_ok {bm bc : Nat} (h : MemR w bm bc clk cs) (o : Int) (ho : 1 ≤ o) (hn : 0 < cs.length) :
    Calls Try.prog 7 #[.pointer (some ⟨bm, 0, none⟩), .int .i64 o] w fun e w' => ∃ b : At, e = .returned (.tuple #[.pointer (some ⟨b.t, 0, none⟩), .int .i64 0]) ∧ Chg [] w w' ∧ b.m = bm ∧ b.c = bc ∧ TxR w' b clk cs o clk 1 0 [] [] ∧
      w.heap.size ≤ b.t ∧ w.heap.size ≤ b.s ∧ w.heap.size ≤ b.r ∧ w.heap.size ≤ b.w := by
  have H := Lib.hid h
  clear h
  go_enter Try.func7, Try.ntmps7
  go_wp2_with (first | (go_at_call 25; refine (size_any H.out hn).mono ?_; rintro e w' ⟨rfl, rfl⟩) | (go_at_call 26; refine (clock_any H.out hn).mono ?_; rintro e w' ⟨rfl, rfl⟩) | (go_at_call 27; refine (snew_any).mono ?_; rintro e w1 ⟨bs, br, bw, rfl, hc1, hs1, l1, l2, l3⟩))
  go_ret2
  have hc := (Chg.refl [] w1).alloc (.cells #[.pointer (some ⟨bm, 0, none⟩), .int .i64 o, .int .i64 clk, .pointer (some ⟨bs, 0, none⟩), .int .u8 1, .slice none 0 0, .bool false, .int .i64 0] 80)
  have hs := hc1.size
  refine ⟨⟨w1.heap.size, bm, bc, bs, br, bw⟩, rfl, hc1.trans hc, rfl, rfl, ⟨blk_new _ _, (H.out.chg hc1 (by simp) (by simp)).chg hc (by simp) (by simp), hs1.chg hc (by simp) (by simp) (by simp)⟩, hs, l1, l2, l3⟩

end

theorem info_one : (Try.prog.info? 112).map (fun i => (i.zero, i.size, i.bytes)) = some (some (.agg MC.z.enc.toArray), 5, 56) := by kernel_rfl

theorem made_cells (k : Nat) : (madeCells MC.z.enc.toArray (k * 5)).toList = (List.replicate k MC.z).flatMap MC.enc := by
  have hl : MC.z.enc.length = 5 := rfl
  apply List.ext_getElem?
  intro j
  simp only [madeCells, List.size_toArray, hl, Array.toList_map, Array.toList_range, List.getElem?_map]
  by_cases hj : j < k * 5
  · obtain ⟨i, r, hr, rfl⟩ : ∃ i r, r < 5 ∧ j = i * 5 + r := ⟨j / 5, j % 5, Nat.mod_lt _ (by omega), by omega⟩
    rw [flat_at _ _ _ hr, List.getElem?_range hj, List.getElem?_replicate, if_pos (by omega)]
    have e : (i * 5 + r) % 5 = r := by omega
    simp only [Option.map_some, Option.bind_some, e]
    have : r = 0 ∨ r = 1 ∨ r = 2 ∨ r = 3 ∨ r = 4 := by omega
    rcases this with rfl | rfl | rfl | rfl | rfl <;> rfl
  · have h1 : (List.range (k * 5))[j]? = none := by simp; omega
    have h2 : ((List.replicate k MC.z).flatMap MC.enc)[j]? = none := by
      rw [List.getElem?_eq_none_iff, List.length_flatMap]
      simp [hl]; omega
    rw [h1, h2]; rfl

set_option maxRecDepth 100000 in
set_option maxHeartbeats 400000 in
theorem mnew_ok (n : Int) (w : World) (h0 : 1 ≤ n) (h1 : n ≤ 1024) :
    Calls Try.prog 6 #[.int .i64 n] w fun e w' => ∃ bm bc, e = .returned (.tuple #[.pointer (some ⟨bm, 0, none⟩), .int .i64 0]) ∧ Chg [] w w' ∧ MemR w' bm bc 0 (List.replicate n.toNat MC.z) ∧ w.heap.size ≤ bm ∧ w.heap.size ≤ bc := by
  obtain ⟨k, rfl⟩ := Int.eq_ofNat_of_zero_le (by omega : 0 ≤ n)
  obtain ⟨i0, hi, hz0, hz1, hz2⟩ := info_parts info_one
  have HI := Lib.hid hi; have HZ0 := Lib.hid hz0; have HZ1 := Lib.hid hz1; have HZ2 := Lib.hid hz2
  clear hi hz0 hz1 hz2
  go_enter Try.func6, Try.ntmps6
  go_wp2_with (at_make; refine wpList_make_full _ rfl _ _ 70 rfl w.heap.size 112 i0 _ 5 Try.underlying70 HI.out HZ0.out HZ1.out _ _ _ _ k rfl rfl rfl rfl ?_ ?_ ?_ ?_; (rw [HZ2.out]; omega); (unfold maxLen; omega); (exact Nat.le_refl _); intro w1 ho1 hg1)
  go_ret2
  have hc1 : Chg [] w w1 := (Chg.refl [] w).grown hg1 (by simp)
  have hc2 := (Chg.refl [] w1).alloc (.cells #[.slice (some ⟨w.heap.size, 0, none⟩) k k, .int .i64 0] 72)
  have hs := hc1.size
  refine ⟨w1.heap.size, w.heap.size, rfl, hc1.trans hc2, ⟨by simpa using blk_new w1 (.cells #[.slice (some ⟨w.heap.size, 0, none⟩) k k, .int .i64 0] 72), ?_⟩, hs, Nat.le_refl _⟩
  rcases ho1.2 with ⟨h2, h3⟩ | ⟨g, cap, cur, hv, hg, hh, h4, h5, h6, h7⟩
  · simp at h2
  · simp only [Value.slice.injEq, Option.some.injEq, Addr.mk.injEq] at hv
    obtain ⟨⟨rfl, _⟩, _, rfl⟩ := hv
    rw [← h6, List.take_of_length_le (by simp)] at h7
    have e : cur = ((List.replicate k MC.z).flatMap MC.enc).toArray := by
      apply Array.toList_inj.1
      rw [h7, h6]
      exact made_cells k
    simp only [Int.toNat_natCast, ← e]
    exact blk_alloc hh _
end Go.Proofs.Ytnijdnnnhkdjaaa
