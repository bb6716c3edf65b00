/- The walk of TableNone. -/
import Derived.Test.YtnijdnnnhkdjaaaNoneB
namespace Go.Proofs.Ytnijdnnnhkdjaaa
set_option linter.unusedSimpArgs false
set_option linter.unusedVariables false
open Go Go.RowKit Go.MapKept

def upTo (l : List V) (a : Nat) : Bool := (List.range a).all fun i => match l[i]? with | some x => okAt l i x | none => false
theorem upTo_succ {l : List V} {a : Nat} {x : V} (hx : l[a]? = some x) {u o : Bool} (hu : upTo l a = u) (ho : okAt l a x = o) : upTo l (a + 1) = (u && o) := by
  unfold upTo at *
  rw [List.range_succ, List.all_append, hu]
  simp [hx, ho]
theorem lnil (w : World) : LoadErr w (.pointer none) [] 1 (fun _ => True) := (load_nil w).mono fun _ _ ⟨h1, h2⟩ => ⟨h1, h2, trivial⟩
theorem lzero (w : World) (bx : Nat) (h : w.heap[bx]? = some (.cells #[.pointer none, .int .i64 0, .int .i64 0] 65 (0, 0))) : LoadErr w (.pointer (some ⟨bx, 0, none⟩)) [] 1 (fun _ => True) := (load_zero w bx h).mono fun _ _ ⟨h1, h2⟩ => ⟨h1, h2, trivial⟩
theorem right_none (w : World) : Calls Try.prog 22 #[.slice none 0 0] w fun e w' => e = .returned (.bool true) ∧ Chg [] w w' :=
  tabright_any (w := w) (base := 0) (l := []) (v := .slice none 0 0) (World.ownsRow_nil w 0 _ _) (by simp)
section
variable {w : World} {b : At} {clk : Int} {cs : List MC} {beg ver : Int} {bx base n : Nat} {l : List V} {e0 : Int}
theorem list_want {own : Int} (h : RawIs w b clk cs own beg ver bx base n l) (hw : wantOf l = e0) : Calls Try.prog 10 #[.pointer (some ⟨bx, 0, none⟩)] w fun e w' => ∃ v, e = .returned (.tuple #[v, .int .i64 e0]) ∧ Chg [b.r] w w' ∧ RawIs w' b clk cs own beg ver bx base n l := hw ▸ list_raw h
theorem next_want {own : Int} (h : RawIs w b clk cs own beg ver bx base n l) (hw : wantOf l = e0) (key : ByteArray) : Calls Try.prog 11 #[.pointer (some ⟨bx, 0, none⟩), .string key] w fun e w' => ∃ x y z k, e = .returned (.tuple #[.agg #[.bool x, .string y, .string z], .bool k, .int .i64 e0]) ∧ Chg [b.r] w w' ∧ RawIs w' b clk cs own beg ver bx base n l := hw ▸ next_raw h key
theorem abort_raw (h : RawIs w b clk cs 1 beg ver bx base n l) (hn : 0 < cs.length) : Calls Try.prog 24 #[.pointer (some ⟨b.t, 0, none⟩)] w fun e w' => e = .returned (.int .i64 0) ∧ Chg [b.t] w w' ∧ TabR w' bx b.t base n ∧ ∃ R W, TxR w' b clk cs 1 beg 4 0 R W := by
  obtain ⟨R, W, h1, _⟩ := h.tx
  exact (abort_any h1.tx hn (by have := h1.small; omega) (by omega) (fun i c hc => by have := (h1.free i c hc).1; omega)).mono fun e w' ⟨h2, h3, h4⟩ => ⟨h2, h3, ⟨h3.at h.tab.hdr (by have := h.lts; simp; omega)⟩, R, W, h4⟩
end

set_option maxRecDepth 100000 in
set_option maxHeartbeats 8000000 in
theorem none_any (w : World) (p : Option Addr) (len cap : Nat) (l : List V) (g off : Nat) (hp : 0 < l.length → p = some ⟨g, off, none⟩ ∧ g < w.heap.size) (hl : l.length = len % 20) (hlc : len ≤ cap) (hmax : cap ≤ 9223372036854775807)
    (hcell : ∀ (i : Nat) (x : V), l[i]? = some x → w.cell? ⟨g, off + i * 3, none⟩ = some (.bool x.1) ∧ w.cell? ⟨g, off + i * 3 + 1, none⟩ = some (.string x.2.1) ∧ w.cell? ⟨g, off + i * 3 + 2, none⟩ = some (.string x.2.2)) :
    Calls Try.prog 5 #[.slice p len cap] w fun e w' => e = .returned (.bool true) ∧ Chg [] w w' := by
  have hl1 : l.length < 20 := by omega
  have hl2 : l.length ≤ len := by omega
  have hpk : ∀ w', Calls Try.prog 21 #[.int .i64 len, .int .i64 20] w' fun e w'' => e = .returned (.int .i64 (l.length : Int)) ∧ w' = w'' := fun w' => by rw [hl]; exact pick20 w' len (by omega)
  have hrt : ∀ w', Chg [] w w' → 0 < l.length → Calls Try.prog 22 #[.slice (some ⟨g, off, none⟩) l.length cap] w' fun e w'' => e = .returned (.bool (upTo l l.length)) ∧ Chg [] w' w'' := fun w' hc hn =>
    tabright_at (by omega) hmax (Nat.lt_of_lt_of_le (hp hn).2 hc.size) (by omega) (fun i x hx => by
      obtain ⟨q0, q1, q2⟩ := hcell i x hx
      have r1 := hc.cells0.1
      rw [r1 _ _ (hp hn).2, r1 _ _ (hp hn).2, r1 _ _ (hp hn).2]
      exact ⟨q0, q1, q2⟩)
  have HC := Lib.hid hcell
  have HP := Lib.hid hp
  have HPK := Lib.hid hpk
  have HRT := Lib.hid hrt
  have HL := Lib.hid hl
  clear hcell hp hpk hrt hl
  go_enter Try.func5, Try.ntmps5
  go_wp2_with (first
    | (go_at_call 8; refine (of_nil _ _ _).mono ?_; rintro e w1 ⟨rfl, hc1⟩; have B1 := Lib.hid (hc1.two (blk_new w _) (by simp)))
    | (go_at_call 15; refine (get_err (lnil _) (fun _ _ _ _ => trivial) _).mono ?_; rintro e w2 ⟨rfl, hc2, -⟩; have B2 := Lib.hid (hc2.two B1.out (by simp)))
    | (go_at_call 10; refine (list_err (lzero _ _ B2.out)).mono ?_; rintro e w3 ⟨rfl, hc3, -⟩)
    | (go_at_call 9; refine (put_err (lnil _) (by decide) _ _).mono ?_; rintro e w4 ⟨rfl, hc4, -⟩)
    | (go_at_call 21; refine (HPK.out _).mono ?_; rintro e w5 ⟨rfl, rfl⟩))
  have HCA := Lib.hid (((((Chg.refl [] w).alloc _).trans hc1).trans hc2).trans hc3 |>.trans hc4)
  clear hc1 hc2 hc3 hc4
  go_loopw [13, 14] (fun r i wr => ∃ a : Nat, a ≤ l.length ∧ i = .int .i64 a ∧ r = .bool (upTo l a) ∧ Chg [] w wr) (fun _ i _ => l.length - (intOf i).toNat)
  case atStart => exact ⟨0, by omega, rfl, rfl, HCA.out⟩
  case round =>
    obtain ⟨a, h1, rfl, rfl, hcw⟩ := hrel
    have HCW := Lib.hid hcw
    by_cases hab : a < l.length
    · obtain ⟨x, hx⟩ : ∃ x, l[a]? = some x := ⟨l[a]'(by omega), List.getElem?_eq_getElem _⟩
      obtain ⟨rfl, hg⟩ := HP.out (by omega)
      obtain ⟨k0, k1, k2⟩ := HC.out _ _ hx
      obtain ⟨r1, r2⟩ := hcw.cells0
      rw [← r1 _ _ hg] at k0 k1 k2
      have hgr : g < wr.heap.size := Nat.lt_of_lt_of_le hg hcw.size
      have hal : a < len := by omega
      have HX := Lib.hid hx
      have HR1 := Lib.hid r1
      clear hx hcw r1 r2
      cases hu : upTo l a with
      | false =>
        have HU := Lib.hid hu
        clear hu
        obtain ⟨o, ho⟩ : ∃ o, okAt l a x = o := ⟨_, rfl⟩
        have HO := Lib.hid ho
        clear ho
        go_wp2
        go_quiet (fail)
        go_wp2
        go_roundw
        case rel => exact ⟨a + 1, by omega, by go_num, congrArg Value.bool (upTo_succ HX.out HU.out HO.out).symm, by repeat (first | exact HCW.out | refine Chg.drew ?_ | refine Chg.drewN ?_ _ | refine Chg.alloc ?_ _)⟩
        case measure => simp [intOf]; omega
      | true =>
        have HU := Lib.hid hu
        clear hu
        obtain ⟨xu, xk, xv⟩ := x
        simp only at k0 k1 k2
        cases xu with
        | false =>
          by_cases hk : xk = ByteArray.empty
          · by_cases hv : xv = ByteArray.empty
            · have ho : okAt l a (false, xk, xv) = true := by simp [okAt, hk, hv]
              have HO := Lib.hid ho
              clear ho
              subst hk hv
              go_wp2
              go_quiet (fail)
              go_wp2
              go_roundw
              case rel => exact ⟨a + 1, by omega, by go_num, congrArg Value.bool (upTo_succ HX.out HU.out HO.out).symm, by repeat (first | exact HCW.out | refine Chg.drew ?_ | refine Chg.drewN ?_ _ | refine Chg.alloc ?_ _)⟩
              case measure => simp [intOf]; omega
            · have hv2 : xv.toList ≠ [] := fun e => hv (ByteArray.ext (Array.toList_inj.1 (by rw [← ByteArray.toList_eq]; exact e)))
              have ho : okAt l a (false, xk, xv) = false := by simp [okAt, hv2]
              have HO := Lib.hid ho
              clear ho
              go_wp2
              go_quiet (fail)
              go_wp2
              go_roundw
              case rel => exact ⟨_, by omega, by go_num, congrArg Value.bool (upTo_succ HX.out HU.out HO.out).symm, by repeat (first | exact HCW.out | refine Chg.drew ?_ | refine Chg.drewN ?_ _ | refine Chg.alloc ?_ _)⟩
              case measure => simp [intOf]; omega
          · have hk2 : xk.toList ≠ [] := fun e => hk (ByteArray.ext (Array.toList_inj.1 (by rw [← ByteArray.toList_eq]; exact e)))
            have ho : okAt l a (false, xk, xv) = false := by simp [okAt, hk2]
            have HO := Lib.hid ho
            clear ho
            go_wp2
            go_quiet (fail)
            go_wp2
            go_roundw
            case rel => exact ⟨_, by omega, by go_num, congrArg Value.bool (upTo_succ HX.out HU.out HO.out).symm, by repeat (first | exact HCW.out | refine Chg.drew ?_ | refine Chg.drewN ?_ _ | refine Chg.alloc ?_ _)⟩
            case measure => simp [intOf]; omega
        | true =>
          by_cases ha0 : a = 0
          · subst ha0
            simp only [Nat.zero_mul, Nat.add_zero] at k0 k1 k2
            have ho : okAt l 0 (true, xk, xv) = true := by simp [okAt]
            have HO := Lib.hid ho
            clear ho
            go_wp2
            go_quiet (fail)
            go_wp2
            go_roundw
            case rel => exact ⟨_, by omega, by go_num, congrArg Value.bool (upTo_succ HX.out HU.out HO.out).symm, by repeat (first | exact HCW.out | refine Chg.drew ?_ | refine Chg.drewN ?_ _ | refine Chg.alloc ?_ _)⟩
            case measure => simp [intOf]; omega
          · obtain ⟨c, hca⟩ : ∃ c, c + 1 = a := ⟨a - 1, by omega⟩
            have hwr : IntKind.i64.wrap ((a : Int) - 1) = (c : Int) := by rw [IntWalk.i64_in _ (by omega)]; omega
            obtain ⟨y, hy⟩ : ∃ y, l[c]? = some y := ⟨l[c]'(by omega), List.getElem?_eq_getElem _⟩
            obtain ⟨m0, m1, m2⟩ := HC.out _ _ hy
            have hcl : c < len := by omega
            have hci : (c : Int) < (len : Int) := by omega
            have hbz : ((a : Int) == 0) = false := beq_eq_false_iff_ne.2 (by omega)
            have hdz : decide ((a : Int) = 0) = false := decide_eq_false (by omega)
            rw [← HR1.out _ _ hg] at m0 m1 m2
            obtain ⟨yu, yk, yv⟩ := y
            simp only at m0 m1 m2
            cases yu with
            | false =>
              have ho : okAt l a (true, xk, xv) = false := by rw [← hca]; simp [okAt, hy]
              have HO := Lib.hid ho
              clear ho hy hca
              go_wp2
              go_quiet (fail)
              clear hbz hdz hwr
              go_wp2
              go_roundw
              case rel => exact ⟨a + 1, by omega, by go_num, congrArg Value.bool (upTo_succ HX.out HU.out HO.out).symm, by repeat (first | exact HCW.out | refine Chg.drew ?_ | refine Chg.drewN ?_ _ | refine Chg.alloc ?_ _)⟩
              case measure => simp [intOf]; omega
            | true =>
              cases hbl : Op.bytesLess yk.toList xk.toList with
              | false =>
                have ho : okAt l a (true, xk, xv) = false := by rw [← hca]; simp [okAt, hy, hbl]
                have HO := Lib.hid ho
                clear ho hy hca
                go_wp2
                go_quiet (fail)
                clear hbz hdz hwr
                go_wp2
                go_roundw
                case rel => exact ⟨a + 1, by omega, by go_num, congrArg Value.bool (upTo_succ HX.out HU.out HO.out).symm, by repeat (first | exact HCW.out | refine Chg.drew ?_ | refine Chg.drewN ?_ _ | refine Chg.alloc ?_ _)⟩
                case measure => simp [intOf]; omega
              | true =>
                have ho : okAt l a (true, xk, xv) = true := by rw [← hca]; simp [okAt, hy, hbl]
                have HO := Lib.hid ho
                clear ho hy hca
                go_wp2
                go_quiet (fail)
                clear hbz hdz hwr
                go_wp2
                go_roundw
                case rel => exact ⟨a + 1, by omega, by go_num, congrArg Value.bool (upTo_succ HX.out HU.out HO.out).symm, by repeat (first | exact HCW.out | refine Chg.drew ?_ | refine Chg.drewN ?_ _ | refine Chg.alloc ?_ _)⟩
                case measure => simp [intOf]; omega
    · obtain rfl : a = l.length := by omega
      have hw0 : wantOf l = if upTo l l.length then 0 else 241 := rfl
      by_cases hz : l.length = 0
      · go_wp2_with (first
          | (go_at_call 22; refine (right_none _).mono ?_; rintro e w6 ⟨rfl, hc6⟩)
          | (go_at_call 12; refine (awake_any _).mono ?_; rintro e w7 ⟨rfl, hc7⟩))
        go_ret
        exact ⟨rfl, (HCW.out.trans hc6).trans hc7⟩
      · obtain ⟨rfl, hg⟩ := HP.out (by omega)
        have HBG : ∀ w', Calls Try.prog 13 #[.int .i64 30, .int .i64 3, .int .i64 (l.length : Int)] w' fun e w'' => ∃ (b : At) (bx : Nat), e = .returned (.tuple #[.pointer (some ⟨b.t, 0, none⟩), .pointer (some ⟨bx, 0, none⟩), .int .i64 0]) ∧ Chg [] w' w'' ∧ TabIs w'' b 0 (List.replicate 30 MC.z) 1 0 0 bx 3 l.length [] ∧
            w'.heap.size ≤ b.t ∧ w'.heap.size ≤ b.m ∧ w'.heap.size ≤ b.c ∧ w'.heap.size ≤ b.s ∧ w'.heap.size ≤ b.r ∧ w'.heap.size ≤ b.w ∧ w'.heap.size ≤ bx := fun w' => begun_ok 30 3 l.length w' (by omega) (by omega) (by omega) (by omega)
        have HB := Lib.hid HBG
        clear HBG
        go_wp2_with (go_at_call 13; refine (HB.out _).mono ?_; rintro e w6 ⟨b, bx, rfl, hc6, h6, l1, l2, l3, l4, l5, l6, l7⟩)
        have hsz := hcw.size
        have HC6 := Lib.hid (HCW.out.trans hc6)
        have H6 := Lib.hid h6
        clear hc6 h6
        go_loopw [18] (fun i wx => ∃ c : Nat, c ≤ l.length ∧ i = .int .i64 c ∧ Chg [] w wx ∧ TabR wx bx b.t 3 l.length ∧ ∃ R W, TxG wx b 0 (List.replicate 30 MC.z) 1 0 0 R W ∧ ∀ k, k < c → ∀ x, l[k]? = some x → curV (List.replicate 30 MC.z) W (3 + k) = x) (fun i _ => l.length - (intOf i).toNat)
        case atStart =>
          obtain ⟨R, W, q1, q2⟩ := H6.out.tx
          exact ⟨0, by omega, rfl, HC6.out, H6.out.tab, R, W, q1, by omega⟩
        case round =>
          obtain ⟨c, n1, rfl, hcx, htx, R, W, hgx, hvx⟩ := hrel
          have HCX := Lib.hid hcx
          have HTX := Lib.hid htx
          have HGX := Lib.hid hgx
          have HVX := Lib.hid hvx
          clear htx hgx hvx
          by_cases hcl : c < l.length
          · obtain ⟨x, hx⟩ : ∃ x, l[c]? = some x := ⟨l[c]'(by omega), List.getElem?_eq_getElem _⟩
            obtain ⟨k0, k1, k2⟩ := HC.out _ _ hx
            obtain ⟨r1, r2⟩ := hcx.cells0
            rw [← r1 _ _ hg] at k0 k1 k2
            have hgr : g < wr.heap.size := Nat.lt_of_lt_of_le hg hcx.size
            have hal : c < len := by omega
            have HX := Lib.hid hx
            clear hx hcx r1 r2
            go_wp2_with (go_at_call 23; refine (write_raw (base := 3) HGX.out c (by omega) (by simp; omega) x).mono ?_; rintro e w7 ⟨rfl, hc7, R7, W7, h7, hv7⟩)
            go_roundw
            case rel =>
              refine ⟨c + 1, by omega, by go_num, HCX.out.trans' hc7 (by intro y hy; simp at hy; right; omega), ⟨hc7.at HTX.out.hdr (by have := HGX.out.tx.sets.writes.ne_cells HTX.out.hdr; simpa using this)⟩, R7, W7, h7, ?_⟩
              intro k hk y hy
              rw [hv7]
              by_cases e : k = c
              · subst e; rw [if_pos rfl]; rw [HX.out] at hy; simpa using hy
              · rw [if_neg e]; exact HVX.out k (by omega) y hy
            case measure => simp [intOf]; omega
          · obtain rfl : c = l.length := by omega
            have hraw : RawIs wr b 0 (List.replicate 30 MC.z) 1 0 0 bx 3 l.length l := by
              refine ⟨⟨R, W, HGX.out, ?_⟩, HTX.out, by simp; omega, by omega, rfl⟩
              apply List.ext_getElem?
              intro i
              by_cases hi : i < l.length
              · have := List.getElem?_eq_getElem (l := l) hi
                rw [this]
                simp only [vals, List.getElem?_map, List.getElem?_range hi, Option.map_some]
                exact congrArg some (HVX.out i hi _ this)
              · rw [List.getElem?_eq_none (l := vals _ _ _ _) (by rw [length_vals]; omega), List.getElem?_eq_none (l := l) (by omega)]
            have HRAW := Lib.hid hraw
            have hlt := hraw.lts
            clear hraw
            have hcs : 0 < (List.replicate 30 MC.z).length := by simp
            have HLT := Lib.hid hlt
            have hrt : ∀ w', Chg [] w w' → Calls Try.prog 22 #[.slice (some ⟨g, off, none⟩) l.length cap] w' fun e w'' => e = .returned (.bool (upTo l l.length)) ∧ Chg [] w' w'' := fun w' hc => HRT.out w' hc (by omega)
            have HR2 := Lib.hid hrt
            have hF : ∀ x ∈ [b.r], x ∈ ([] : List Nat) ∨ w.heap.size ≤ x := by intro x hx; simp at hx; right; omega
            have hF2 : ∀ x ∈ [b.t], x ∈ ([] : List Nat) ∨ w.heap.size ≤ x := by intro x hx; simp at hx; right; omega
            have HF := Lib.hid hF
            have HF2 := Lib.hid hF2
            have HCS := Lib.hid hcs
            clear hlt hrt hF hF2 hcs hcx
            cases hru : upTo l l.length
            all_goals
              rw [hru] at hw0
              simp only [if_true, if_false, Bool.false_eq_true] at hw0
              have HW := Lib.hid hw0
              have HR3 := HR2
              rw [hru] at HR3
              clear hw0 HR2 hru
              go_wp2_with (first
                | (go_at_call 10; refine (list_want HRAW.out HW.out).mono ?_; rintro e w8 ⟨v8, rfl, hc8, h8⟩; have HC8 := Lib.hid (HCX.out.trans' hc8 HF.out))
                | (go_at_call 11; refine (next_want h8 HW.out _).mono ?_; rintro e w9 ⟨x9, y9, z9, b9, rfl, hc9, h9⟩; have HC9 := Lib.hid (HC8.out.trans' hc9 HF.out))
                | (go_at_call 22; refine (HR3.out _ (HC9.out.alloc _)).mono ?_; rintro e w10 ⟨rfl, hc10⟩)
                | (go_at_call 24; refine (abort_raw (h9.chg0 (((Chg.refl [] _).alloc _).trans hc10)) HCS.out).mono ?_; rintro e w11 ⟨rfl, hc11, ht11, R11, W11, h11⟩)
                | (go_at_call 18; refine (remove_err (load_over h11 (by omega) ht11 (by omega) (by omega) (by omega)) (fun _ _ _ _ => trivial) _).mono ?_; rintro e w12 ⟨rfl, hc12, -⟩)
                | (go_at_call 12; refine (awake_any _).mono ?_; rintro e w13 ⟨rfl, hc13⟩))
              go_ret
              exact ⟨rfl, ((((HC9.out.alloc _).trans hc10).trans' hc11 HF2.out).trans hc12).trans hc13⟩
end Go.Proofs.Ytnijdnnnhkdjaaa
