/- What the calls on a table tell, whose cells hold any list. -/
import Derived.Test.YtnijdnnnhkdjaaaNoneA
namespace Go.Proofs.Ytnijdnnnhkdjaaa
set_option linter.unusedSimpArgs false
set_option linter.unusedVariables false
open Go Go.RowKit Go.MapKept

set_option maxRecDepth 100000 in
set_option maxHeartbeats 800000 in
theorem pick20 (w : World) (len : Nat) (hl : len ≤ 9223372036854775807) : Calls Try.prog 21 #[.int .i64 len, .int .i64 20] w fun e w' => e = .returned (.int .i64 ((len % 20 : Nat) : Int)) ∧ w = w' := by
  have h1 : ((len : Int).tmod 20) = ((len % 20 : Nat) : Int) := by rw [Int.tmod_eq_emod_of_nonneg (by omega)]; omega
  go_enter Try.func21, Try.ntmps21
  go_wp2
  go_ret
  exact ⟨rfl, rfl⟩

set_option maxRecDepth 100000 in
set_option maxHeartbeats 800000 in
theorem next_err {w : World} {x : Value} {S : List Nat} {err : Int} {Q : World → Prop} (h : LoadErr (w.alloc (.cells #[.bool false, .string .empty, .string .empty] 27 (0, 0))) x S err Q) (hQ : ∀ w1 w2, Q w1 → Chg [w.heap.size] w1 w2 → Q w2) (hS : ∀ k ∈ S, k < w.heap.size) (key : ByteArray) : Calls Try.prog 11 #[x, .string key] w fun e w' => e = .returned (.tuple #[valV MC.z.val, .bool false, .int .i64 err]) ∧ Chg S w w' ∧ Q w' := by
  have HQ := Lib.hid hQ
  have hns : w.heap.size ∉ S := fun e => Nat.lt_irrefl _ (hS _ e)
  have HNS := Lib.hid hns
  clear hQ hS hns
  go_enter Try.func11, Try.ntmps11
  go_wp2_with (first | (go_at_call 30; refine (Calls.mono h ?_); rintro e w1 ⟨rfl, hc1, hq1⟩; have hw1 := Lib.hid hc1.size) | (go_at_call 31; refine (find_nil _ _).mono ?_; rintro e w2 ⟨rfl, hc2⟩; obtain ⟨q0, q1, q2, p0, p1, p2, hz, hq⟩ := (hc1.trans hc2.of_nil).keep3 (blk_new w _) (by simpa using HNS.out)))
  have hcc := (((Chg.refl S w).alloc _).trans hc1).trans hc2.of_nil
  refine bodyPost_ret (v := .tuple #[valV MC.z.val, .bool false, .int .i64 err]) (by simp [results, Try.results11, go_sem, valV, MC.z, q0, q1, q2]; try rfl) rfl ⟨rfl, ?_, HQ.out _ _ hq1 (hc2.of_nil.trans (chg3 w2 w.heap.size _ _ _))⟩
  repeat (first | exact hcc | refine Chg.setCell ?_ _ _ (.inr (Nat.le_refl _)))

/-- What List and Next tell of cells that hold the list l. -/
def wantOf (l : List V) : Int := if rightB l then 0 else 241

section
variable {w : World} {b : At} {clk : Int} {cs : List MC} {own beg ver : Int} {bx base n : Nat} {l : List V}
/-- The table's cells hold l, which need not be a table's. -/
structure RawIs (w : World) (b : At) (clk : Int) (cs : List MC) (own beg ver : Int) (bx base n : Nat) (l : List V) : Prop where
  tx : ∃ R W, TxG w b clk cs own beg ver R W ∧ vals cs W base n = l
  tab : TabR w bx b.t base n
  fits : base + n ≤ cs.length
  small : n ≤ 200
  len : l.length = n

theorem RawIs.lts (h : RawIs w b clk cs own beg ver bx base n l) : b.t < w.heap.size ∧ b.m < w.heap.size ∧ b.c < w.heap.size ∧ b.s < w.heap.size ∧ b.r < w.heap.size ∧ b.w < w.heap.size ∧ bx < w.heap.size ∧ bx ≠ b.r ∧ bx ≠ b.t := by
  obtain ⟨R, W, h1, _⟩ := h.tx
  have := h1.tx.lts
  have := h.tab.cells.2.2.2
  have := h1.tx.sets.reads.ne_cells h.tab.hdr
  have := ne_type h.tab.hdr h1.tx.hdr (by decide)
  omega
theorem RawIs.chg0 {w' : World} (h : RawIs w b clk cs own beg ver bx base n l) (hc : Chg [] w w') : RawIs w' b clk cs own beg ver bx base n l := by
  obtain ⟨R, W, h1, h2⟩ := h.tx
  exact ⟨⟨R, W, h1.chg0 hc, h2⟩, ⟨hc.at h.tab.hdr (by simp)⟩, h.fits, h.small, h.len⟩
theorem RawIs.chg1 {w' : World} {g : Nat} (h : RawIs w b clk cs own beg ver bx base n l) (hc : Chg [g] w w') (k : b.t ≠ g ∧ b.m ≠ g ∧ b.c ≠ g ∧ b.s ≠ g ∧ b.r ≠ g ∧ b.w ≠ g) (k2 : bx ≠ g) : RawIs w' b clk cs own beg ver bx base n l := by
  obtain ⟨R, W, h1, h2⟩ := h.tx
  exact ⟨⟨R, W, h1.chg1 hc k, h2⟩, ⟨hc.at h.tab.hdr (by simpa using k2)⟩, h.fits, h.small, h.len⟩

theorem RawIs.loadErr (h : RawIs w b clk cs own beg ver bx base n l) (hr : rightB l = false) : LoadErr w (.pointer (some ⟨bx, 0, none⟩)) [b.r] 241 (fun w' => RawIs w' b clk cs own beg ver bx base n l) := by
  obtain ⟨R, W, h1, h2⟩ := h.tx
  refine (load_any h1 h.tab h.fits).mono fun e w' ⟨hc, ⟨R', hg⟩, hx⟩ => ?_
  rw [h2] at hx
  rcases hx with ⟨hr', _⟩ | ⟨_, he⟩
  · rw [hr] at hr'; cases hr'
  · exact ⟨he, hc, ⟨R', W, hg, h2⟩, ⟨hc.at h.tab.hdr (by have := h.lts; simp; omega)⟩, h.fits, h.small, h.len⟩
theorem RawIs.tabIs (h : RawIs w b clk cs own beg ver bx base n l) (hr : rightB l = true) : ∃ l', TabIs w b clk cs own beg ver bx base n l' ∧ l = padL l' n := by
  obtain ⟨R, W, h1, h5⟩ := h.tx
  obtain ⟨l', h2, h3, h4⟩ := right_split hr
  rw [h.len] at h3 h4
  exact ⟨l', ⟨⟨R, W, h1, h5.trans h3⟩, h.tab, h.fits, h2, h4, h.small⟩, h3⟩
theorem RawIs.ofTab {l' : List V} (h : TabIs w b clk cs own beg ver bx base n l') (hn : l.length = n) (he : l = padL l' n) : RawIs w b clk cs own beg ver bx base n l := by
  obtain ⟨R, W, h1, h2⟩ := h.tx
  exact ⟨⟨R, W, h1, h2.trans he.symm⟩, h.tab, h.fits, h.small, hn⟩

theorem list_raw (h : RawIs w b clk cs own beg ver bx base n l) : Calls Try.prog 10 #[.pointer (some ⟨bx, 0, none⟩)] w fun e w' => ∃ v, e = .returned (.tuple #[v, .int .i64 (wantOf l)]) ∧ Chg [b.r] w w' ∧ RawIs w' b clk cs own beg ver bx base n l := by
  unfold wantOf
  cases hr : rightB l with
  | false => exact (list_err (h.loadErr hr)).mono fun e w' ⟨h1, h2, h3⟩ => ⟨_, h1, h2, h3⟩
  | true =>
    obtain ⟨l', ht, he⟩ := h.tabIs hr
    exact (list_is ht).mono fun e w' ⟨v, h1, h2, _, h3⟩ => ⟨v, h1, h2, .ofTab h3 h.len he⟩
theorem next_raw (h : RawIs w b clk cs own beg ver bx base n l) (key : ByteArray) : Calls Try.prog 11 #[.pointer (some ⟨bx, 0, none⟩), .string key] w fun e w' => ∃ x y z k, e = .returned (.tuple #[.agg #[.bool x, .string y, .string z], .bool k, .int .i64 (wantOf l)]) ∧ Chg [b.r] w w' ∧ RawIs w' b clk cs own beg ver bx base n l := by
  unfold wantOf
  cases hr : rightB l with
  | false =>
    have hlt := h.lts
    exact (next_err ((h.chg0 ((Chg.refl [] _).alloc _)).loadErr hr) (fun w1 w2 h1 h2 => h1.chg1 h2 (by omega) (by omega)) (by simp; omega) key).mono fun e w' ⟨h1, h2, h3⟩ => ⟨_, _, _, _, h1, h2, h3⟩
  | true =>
    obtain ⟨l', ht, he⟩ := h.tabIs hr
    exact (next_is ht key).mono fun e w' ⟨h1, h2, h3⟩ => ⟨_, _, _, _, h1, h2, .ofTab h3 h.len he⟩

/-- Writing one cell of the table. -/
theorem write_raw {R : List (Int × Int)} {W : List (Int × V)} {i : Int} (h : TxG w b clk cs own beg ver R W) (j : Nat) (hi : ((base + j : Nat) : Int) = i) (hj : base + j < cs.length) (x : V) :
    Calls Try.prog 23 #[.pointer (some ⟨b.t, 0, none⟩), .int .i64 i, .agg #[.bool x.1, .string x.2.1, .string x.2.2]] w fun e w' => e = .returned (.int .i64 0) ∧ Chg [b.w] w w' ∧ ∃ R W', TxG w' b clk cs own beg ver R W' ∧ ∀ k, curV cs W' (base + k) = if k = j then x else curV cs W (base + k) := by
  have := gwrite h (base + j) x hj
  rw [hi] at this
  refine this.mono fun e w' ⟨h1, h2, h3⟩ => ⟨h1, h2, R, _, h3, fun k => ?_⟩
  rw [← hi, curV_put]
  by_cases e : k = j
  · rw [if_pos (by omega), if_pos e]
  · rw [if_neg (by omega), if_neg e]
end
end Go.Proofs.Ytnijdnnnhkdjaaa
