-- Printed by a program of this session (wip/tools/pp.py, over the kit's print).
import Derived.Test.YtjmbedbapoofdaaPx0
namespace Go.Proofs.Ytjmbedbapoofdaa.P
open Go.RowKit Go.Proofs.YtjmbedbapoofdaaW.PrintWords Go.Proofs.YtjmbedbapoofdaaW.PrintLast Go.Proofs.YtjmbedbapoofdaaW.PrintMore
attribute [local go_sem] max2_int min2_int max_two min_two max_three min_three max_four min_four   -- for this text's walks alone
set_option linter.unusedVariables false
set_option linter.unusedSimpArgs false

/-! ### cartridgeref10_Newest: function 9 -/
def cartridgeref10_Newest.l0 : Nat → List (S28) → ByteArray → Int → Int → Option (ByteArray × Int × Int × Int × Int × Bool × (List (S47)) × Bool)
  | 0, _, _, _, _ => none
  | k + 1, x0, x1, x6, x7 => if x7 < (x0.length : Int) then (if 0 ≤ x7 then (if ((rd_T28 x0 x7).f0).toList = x1.toList then (if x6 < 0 then (cartridgeref10_Newest.l0 k x0 x1 x7 (wrap64 (x7 + 1))) else (if 0 ≤ x6 then (if x6 < (x0.length : Int) then (if ((rd_T28 x0 x7).f1) > ((rd_T28 x0 x6).f1) then (cartridgeref10_Newest.l0 k x0 x1 x7 (wrap64 (x7 + 1))) else (cartridgeref10_Newest.l0 k x0 x1 x6 (wrap64 (x7 + 1)))) else (none)) else (none))) else (cartridgeref10_Newest.l0 k x0 x1 x6 (wrap64 (x7 + 1)))) else (none)) else (if x6 < 0 then (some ((⟨#[]⟩ : ByteArray), 0, 0, 0, 0, false, ([] : List (S47)), false)) else (if 0 ≤ x6 then (if x6 < (x0.length : Int) then (if (rd_T28 x0 x6).f5 = true then (some ((⟨#[]⟩ : ByteArray), 0, 0, 0, 0, false, ([] : List (S47)), false)) else (some ((rd_T28 x0 x6).f0, (rd_T28 x0 x6).f1, (rd_T28 x0 x6).f2, (rd_T28 x0 x6).f3, (rd_T28 x0 x6).f4, (rd_T28 x0 x6).f5, (rd_T28 x0 x6).f6, true))) else (none)) else (none)))
def cartridgeref10_Newest.f (k : Nat) (l0 : List (S28)) (a1 : ByteArray) : Option (ByteArray × Int × Int × Int × Int × Bool × (List (S47)) × Bool) := cartridgeref10_Newest.l0 k l0 a1 (-1) 0
theorem cartridgeref10_Newest.mono_l : ∀ k, (∀ y0 y1 y2 y3, LeO (cartridgeref10_Newest.l0 k y0 y1 y2 y3) (cartridgeref10_Newest.l0 (k + 1) y0 y1 y2 y3))
  | 0 => fun _ _ _ _ r h => by simp [cartridgeref10_Newest.l0] at h
  | k + 1 => by
    have ih0 := cartridgeref10_Newest.mono_l k
    · intro y0 y1 y2 y3
      unfold cartridgeref10_Newest.l0
      repeat' first
      | (with_reducible exact ih0 _ _ _ _)
      | (with_reducible exact LeO.refl _)
      | (with_reducible exact LeO.none _)
      | (with_reducible refine LeO.ite ?_ ?_)
      | (with_reducible refine LeO.bind ?_ (fun _ => ?_))
      | exact ih0 _ _ _ _
      | exact LeO.none _
      | refine LeO.ite ?_ ?_
      | refine LeO.bind ?_ (fun _ => ?_)
theorem cartridgeref10_Newest.mono : ∀ a0 a1 k, LeO (cartridgeref10_Newest.f k a0 a1) (cartridgeref10_Newest.f (k + 1) a0 a1) := by
  intro a0 a1 k
  have ih0 := cartridgeref10_Newest.mono_l k
  unfold cartridgeref10_Newest.f
  repeat' first
      | (with_reducible exact ih0 _ _ _ _)
      | (with_reducible exact LeO.refl _)
      | (with_reducible exact LeO.none _)
      | (with_reducible refine LeO.ite ?_ ?_)
      | (with_reducible refine LeO.bind ?_ (fun _ => ?_))
      | exact ih0 _ _ _ _
      | exact LeO.none _
      | refine LeO.ite ?_ ?_
      | refine LeO.bind ?_ (fun _ => ?_)
set_option maxHeartbeats 8000000 in
set_option maxRecDepth 100000 in
theorem cartridgeref10_Newest.calls (k : Nat) (P0_ : Nat → Prop) (A0 : Option Addr) (c0 : Nat) (l0 : List (S28)) (a1 : ByteArray) (r1 : ByteArray) (r2 : Int) (r3 : Int) (r4 : Int) (r5 : Int) (r6 : Bool) (r7 : List (S47)) (r8 : Bool) (w : World) (hs0 : Kd.V k28 28 w w.heap.size (fun k_ => P0_ k_) (.slice A0 l0.length c0) l0) (h : cartridgeref10_Newest.f k l0 a1 = some (r1, r2, r3, r4, r5, r6, r7, r8)) :
    Calls Try.prog 9 #[.slice A0 l0.length c0, .string a1] w fun e w' => ∃ v6_ : Value, e = .returned (.tuple #[.agg #[.string r1, .int .i64 r2, .int .i64 r3, .int .i64 r4, .int .i64 r5, .bool r6, v6_], .bool r8]) ∧ Kd.V k47 47 w' w.heap.size (fun k_ => (P0_ k_ ∨ w.heap.size ≤ k_)) v6_ r7 ∧ Below w.heap.size w w' := by
  have hu28 := Try.underlying28
  have HO0 := Aside0.mk (show Kd.V k28 28 w w.heap.size (fun k_ => (P0_ k_ ∨ w.heap.size ≤ k_)) (.slice A0 l0.length c0) l0 from Kd.V_mono hs0 (fun k_ hk => .inl hk))
  have HB := Aside0.mk (Below.refl w.heap.size w)
  have H : (cartridgeref10_Newest.l0 k l0 a1 (-1) 0) = some (r1, r2, r3, r4, r5, r6, r7, r8) := h
  clear h
  have H' := Aside0.mk H
  clear H
  go_enter Try.func9, Try.ntmps9
  go_wp2_with (first | ((with_reducible refine gate_dst (N := 4) rfl ?_); refine box_event ?hg (N := 4) ?hd (cs := #[.string (⟨#[]⟩ : ByteArray), .int .i64 0, .int .i64 0, .int .i64 0, .int .i64 0, .bool false, .slice none 0 0]) (t := 28) ?hr ?_; (case hd => rfl); (case hg => rfl); (case hr => first | (go_simp; done) | (go_simp; rfl)); intro gb101 hg w3 hbox hb; have n0_ := Aside0.mk (Kd.V_below (Kd.V_elderB (by (with_reducible repeat (first | apply Kd.V_alloc | apply Kd.V_drewN | apply Kd.V_drew)); exact HO0.out) gb101 (Nat.le_of_eq hg.symm)) hb); have n1_ := Aside0.mk (below_step (by repeat (first | (with_reducible first | exact HB.out | apply below_alloc | apply pw_below_drewN | apply below_drew1) | exact HB.out)) hb); have n2_ := Aside0.mk (hbox); have n3_ := Aside0.mk ((by rw [hg]; exact (below_size (by repeat (first | (with_reducible first | exact HB.out | apply below_alloc | apply pw_below_drewN | apply below_drew1) | exact HB.out))) : w.heap.size ≤ gb101)); have n4_ := Aside0.mk ((by rw [hg]; exact (below_size (by repeat (first | (with_reducible first | exact HB.out | apply below_alloc | apply pw_below_drewN | apply below_drew1) | exact HB.out))) : w.heap.size ≤ gb101)); clear HO0; clear HB; have HO0 := n0_; have HB := n1_; have BK101 := n2_; have GW101 := n3_; have GE101 := n4_; clear n0_ n1_ n2_ n3_ n4_; clear hb hbox hg))
  repeat (go_quiet (first | ((with_reducible refine gate_dst (N := 4) rfl ?_); refine box_event ?hg (N := 4) ?hd (cs := #[.string (⟨#[]⟩ : ByteArray), .int .i64 0, .int .i64 0, .int .i64 0, .int .i64 0, .bool false, .slice none 0 0]) (t := 28) ?hr ?_; (case hd => rfl); (case hg => rfl); (case hr => first | (go_simp; done) | (go_simp; rfl)); intro gb101 hg w3 hbox hb; have n0_ := Aside0.mk (Kd.V_below (Kd.V_elderB (by (with_reducible repeat (first | apply Kd.V_alloc | apply Kd.V_drewN | apply Kd.V_drew)); exact HO0.out) gb101 (Nat.le_of_eq hg.symm)) hb); have n1_ := Aside0.mk (below_step (by repeat (first | (with_reducible first | exact HB.out | apply below_alloc | apply pw_below_drewN | apply below_drew1) | exact HB.out)) hb); have n2_ := Aside0.mk (hbox); have n3_ := Aside0.mk ((by rw [hg]; exact (below_size (by repeat (first | (with_reducible first | exact HB.out | apply below_alloc | apply pw_below_drewN | apply below_drew1) | exact HB.out))) : w.heap.size ≤ gb101)); have n4_ := Aside0.mk ((by rw [hg]; exact (below_size (by repeat (first | (with_reducible first | exact HB.out | apply below_alloc | apply pw_below_drewN | apply below_drew1) | exact HB.out))) : w.heap.size ≤ gb101)); clear HO0; clear HB; have HO0 := n0_; have HB := n1_; have BK101 := n2_; have GW101 := n3_; have GE101 := n4_; clear n0_ n1_ n2_ n3_ n4_; clear hb hbox hg)); try go_wp2_with (first | ((with_reducible refine gate_dst (N := 4) rfl ?_); refine box_event ?hg (N := 4) ?hd (cs := #[.string (⟨#[]⟩ : ByteArray), .int .i64 0, .int .i64 0, .int .i64 0, .int .i64 0, .bool false, .slice none 0 0]) (t := 28) ?hr ?_; (case hd => rfl); (case hg => rfl); (case hr => first | (go_simp; done) | (go_simp; rfl)); intro gb101 hg w3 hbox hb; have n0_ := Aside0.mk (Kd.V_below (Kd.V_elderB (by (with_reducible repeat (first | apply Kd.V_alloc | apply Kd.V_drewN | apply Kd.V_drew)); exact HO0.out) gb101 (Nat.le_of_eq hg.symm)) hb); have n1_ := Aside0.mk (below_step (by repeat (first | (with_reducible first | exact HB.out | apply below_alloc | apply pw_below_drewN | apply below_drew1) | exact HB.out)) hb); have n2_ := Aside0.mk (hbox); have n3_ := Aside0.mk ((by rw [hg]; exact (below_size (by repeat (first | (with_reducible first | exact HB.out | apply below_alloc | apply pw_below_drewN | apply below_drew1) | exact HB.out))) : w.heap.size ≤ gb101)); have n4_ := Aside0.mk ((by rw [hg]; exact (below_size (by repeat (first | (with_reducible first | exact HB.out | apply below_alloc | apply pw_below_drewN | apply below_drew1) | exact HB.out))) : w.heap.size ≤ gb101)); clear HO0; clear HB; have HO0 := n0_; have HB := n1_; have BK101 := n2_; have GW101 := n3_; have GE101 := n4_; clear n0_ n1_ n2_ n3_ n4_; clear hb hbox hg)))
  go_loopg [6, 7] k (fun kq v6 v7 w' => ∃ (x6_1 : Int) (x7_1 : Int), v6 = .int .i64 x6_1 ∧ v7 = .int .i64 x7_1 ∧ Aside0 (cartridgeref10_Newest.l0 kq l0 a1 x6_1 x7_1 = some (r1, r2, r3, r4, r5, r6, r7, r8)) ∧ Aside0 (kq ≤ k) ∧ Aside0 (Kd.V k28 28 w' w.heap.size (fun k_ => (P0_ k_ ∨ w.heap.size ≤ k_) ∧ k_ ≠ gb101) (.slice A0 l0.length c0) l0) ∧ Aside0 (w'.heap[gb101]? = some (.cells #[.string (⟨#[]⟩ : ByteArray), .int .i64 0, .int .i64 0, .int .i64 0, .int .i64 0, .bool false, (.slice none 0 0)] 28 (0, 0))) ∧ Aside0 (Below w.heap.size w w'))
  case atStart => exact ⟨((-1)), (0), (by first | rfl | (simp; done) | (simp [*]; done)), (by first | rfl | (simp; done) | (simp [*]; done)), H', ⟨Nat.le_refl _⟩, ⟨by (with_reducible repeat (first | apply Kd.V_alloc | apply Kd.V_drewN | apply Kd.V_drew)); exact HO0.out⟩, ⟨by (with_reducible repeat (first | refine blk_drewN ?_ _ | refine blk_drew ?_ | refine blk_alloc ?_ _)); exact BK101.out⟩, ⟨by repeat (first | (with_reducible first | exact HB.out | apply below_alloc | apply pw_below_drewN | apply below_drew1 | refine below_set ?_ GE101.out) | exact HB.out)⟩⟩
  case round =>
    clear H'
    try clear p2
    obtain ⟨x6_1, x7_1, rfl, rfl, HA, HK1, HO_0, BK101, HB⟩ := hrel
    cases gk with
    | zero => exact absurd HA.out (by simp [cartridgeref10_Newest.l0])
    | succ k1 =>
      have H := HA.out
      clear HA
      simp only [cartridgeref10_Newest.l0] at H
      by_cases c4 : x7_1 < (l0.length : Int)
      · rw [if_pos c4] at H
        have c4b0 : decide (x7_1 < (l0.length : Int)) = true := decide_eq_true c4
        clear c4
        by_cases c5 : 0 ≤ x7_1
        · rw [if_pos c5] at H
          have c5b0 : decide (0 ≤ x7_1) = true := decide_eq_true c5
          clear c5
          by_cases c6 : ((rd_T28 l0 x7_1).f0).toList = a1.toList
          · rw [if_pos c6] at H
            have c6b0 : (((rd_T28 l0 x7_1).f0).toList == a1.toList) = true := beq_iff_eq.mpr c6
            have c6b1 : (((rd_T28 l0 x7_1).f0).toList != a1.toList) = false := bne_eq_false_iff_eq.mpr c6
            clear c6
            by_cases c7 : x6_1 < 0
            · rw [if_pos c7] at H
              have c7b0 : decide (x6_1 < 0) = true := decide_eq_true c7
              clear c7
              have H' := Aside0.mk H
              clear H
              have p102 : 0 ≤ (x7_1 : Int) := of_decide_eq_true (by first | (with_reducible assumption) | assumption)
              have q102 : x7_1 < (l0.length : Int) := of_decide_eq_true (by first | (with_reducible assumption) | assumption)
              obtain ⟨ad102, A102_6, c102_6, e102, hx102_0, hx102_1, hx102_2, hx102_3, hx102_4, hx102_5, hx102_6, hl102_6, hi102_6⟩ := at_T28 (Kd.V_reads' HO_0.out).2.2 x7_1 p102 q102
              cases e102
              obtain ⟨ce102, hce102, hMe102, hcc102⟩ := Kd.V_get HO_0.out z28 x7_1 p102 (by first | exact q102 | exact of_decide_eq_true (by first | (with_reducible assumption) | assumption) | (have e_ := (Kd.V_reads' HO_0.out).1; omega))
              obtain ⟨ua102_6, uc102_6, rfl, ul102_6, ge102_6⟩ := k28_openF hMe102
              have hv102_6 := hcc102 6 _ rfl
              rw [add_field _ _ 6 (by omega)] at hv102_6
              replace hv102_6 := Option.some.inj (hv102_6.symm.trans hx102_6)
              injection hv102_6 with hva_ hvn_ hvc_
              rw [hva_] at ge102_6
              rw [hvc_] at ul102_6
              have HL102_6 := Aside0.mk (show Kd.V k47 47 _ w.heap.size _ _ ((rd_T28 l0 x7_1).f6) from Kd.V_mk ul102_6 ge102_6)
              clear hva_ hvn_ hvc_ ge102_6 ul102_6
              clear hcc102 hce102
              have HR102_6 := Aside0.mk hi102_6
              have HC102_6 := Aside0.mk hl102_6
              clear hi102_6 hl102_6
              replace p102 := eq_true p102
              replace q102 := eq_true q102
              go_wp2
              repeat (go_quiet (fail); try go_wp2)
              go_roundg k1
              case measure => have := HK1.out; omega
              case rel => exact ⟨(x7_1), (wrap64 (x7_1 + 1)), (by first | rfl | (simp; done) | (simp [*]; done)), (by first | rfl | (simp; done) | (simp [*]; done)), H', ⟨by have := HK1.out; omega⟩, ⟨by (with_reducible repeat (first | apply Kd.V_alloc | apply Kd.V_drewN | apply Kd.V_drew)); exact HO_0.out⟩, ⟨by (with_reducible repeat (first | refine blk_drewN ?_ _ | refine blk_drew ?_ | refine blk_alloc ?_ _)); exact BK101.out⟩, ⟨by repeat (first | (with_reducible first | exact HB.out | apply below_alloc | apply pw_below_drewN | apply below_drew1 | refine below_set ?_ GE101.out) | exact HB.out)⟩⟩
            · rw [if_neg c7] at H
              have c7b0 : decide (x6_1 < 0) = false := decide_eq_false c7
              clear c7
              by_cases c8 : 0 ≤ x6_1
              · rw [if_pos c8] at H
                have c8b0 : decide (0 ≤ x6_1) = true := decide_eq_true c8
                clear c8
                by_cases c9 : x6_1 < (l0.length : Int)
                · rw [if_pos c9] at H
                  have c9b0 : decide (x6_1 < (l0.length : Int)) = true := decide_eq_true c9
                  clear c9
                  by_cases c10 : ((rd_T28 l0 x7_1).f1) > ((rd_T28 l0 x6_1).f1)
                  · rw [if_pos c10] at H
                    have c10b0 : decide (((rd_T28 l0 x6_1).f1) < ((rd_T28 l0 x7_1).f1)) = true := decide_eq_true c10
                    clear c10
                    have H' := Aside0.mk H
                    clear H
                    have p102 : 0 ≤ (x7_1 : Int) := of_decide_eq_true (by first | (with_reducible assumption) | assumption)
                    have q102 : x7_1 < (l0.length : Int) := of_decide_eq_true (by first | (with_reducible assumption) | assumption)
                    obtain ⟨ad102, A102_6, c102_6, e102, hx102_0, hx102_1, hx102_2, hx102_3, hx102_4, hx102_5, hx102_6, hl102_6, hi102_6⟩ := at_T28 (Kd.V_reads' HO_0.out).2.2 x7_1 p102 q102
                    cases e102
                    obtain ⟨ce102, hce102, hMe102, hcc102⟩ := Kd.V_get HO_0.out z28 x7_1 p102 (by first | exact q102 | exact of_decide_eq_true (by first | (with_reducible assumption) | assumption) | (have e_ := (Kd.V_reads' HO_0.out).1; omega))
                    obtain ⟨ua102_6, uc102_6, rfl, ul102_6, ge102_6⟩ := k28_openF hMe102
                    have hv102_6 := hcc102 6 _ rfl
                    rw [add_field _ _ 6 (by omega)] at hv102_6
                    replace hv102_6 := Option.some.inj (hv102_6.symm.trans hx102_6)
                    injection hv102_6 with hva_ hvn_ hvc_
                    rw [hva_] at ge102_6
                    rw [hvc_] at ul102_6
                    have HL102_6 := Aside0.mk (show Kd.V k47 47 _ w.heap.size _ _ ((rd_T28 l0 x7_1).f6) from Kd.V_mk ul102_6 ge102_6)
                    clear hva_ hvn_ hvc_ ge102_6 ul102_6
                    clear hcc102 hce102
                    have HR102_6 := Aside0.mk hi102_6
                    have HC102_6 := Aside0.mk hl102_6
                    clear hi102_6 hl102_6
                    replace p102 := eq_true p102
                    replace q102 := eq_true q102
                    have p103 : 0 ≤ (x7_1 : Int) := of_decide_eq_true (by first | (with_reducible assumption) | assumption)
                    have q103 : x7_1 < (l0.length : Int) := of_decide_eq_true (by first | (with_reducible assumption) | assumption)
                    obtain ⟨ad103, A103_6, c103_6, e103, hx103_0, hx103_1, hx103_2, hx103_3, hx103_4, hx103_5, hx103_6, hl103_6, hi103_6⟩ := at_T28 (Kd.V_reads' HO_0.out).2.2 x7_1 p103 q103
                    obtain rfl : ad102 = ad103 := (by injection e103)
                    obtain ⟨ce103, hce103, hMe103, hcc103⟩ := Kd.V_get HO_0.out z28 x7_1 p103 (by first | exact q103 | exact of_decide_eq_true (by first | (with_reducible assumption) | assumption) | (have e_ := (Kd.V_reads' HO_0.out).1; omega))
                    obtain ⟨ua103_6, uc103_6, rfl, ul103_6, ge103_6⟩ := k28_openF hMe103
                    have hv103_6 := hcc103 6 _ rfl
                    rw [add_field _ _ 6 (by omega)] at hv103_6
                    replace hv103_6 := Option.some.inj (hv103_6.symm.trans hx103_6)
                    injection hv103_6 with hva_ hvn_ hvc_
                    rw [hva_] at ge103_6
                    rw [hvc_] at ul103_6
                    have HL103_6 := Aside0.mk (show Kd.V k47 47 _ w.heap.size _ _ ((rd_T28 l0 x7_1).f6) from Kd.V_mk ul103_6 ge103_6)
                    clear hva_ hvn_ hvc_ ge103_6 ul103_6
                    clear hcc103 hce103
                    have HR103_6 := Aside0.mk hi103_6
                    have HC103_6 := Aside0.mk hl103_6
                    clear hi103_6 hl103_6
                    replace p103 := eq_true p103
                    replace q103 := eq_true q103
                    have ea_ := Option.some.inj (hx102_6.symm.trans hx103_6)
                    injection ea_ with ea_ en_ ec_
                    subst ea_
                    subst ec_
                    clear en_
                    have p104 : 0 ≤ (x6_1 : Int) := of_decide_eq_true (by first | (with_reducible assumption) | assumption)
                    have q104 : x6_1 < (l0.length : Int) := of_decide_eq_true (by first | (with_reducible assumption) | assumption)
                    obtain ⟨ad104, A104_6, c104_6, e104, hx104_0, hx104_1, hx104_2, hx104_3, hx104_4, hx104_5, hx104_6, hl104_6, hi104_6⟩ := at_T28 (Kd.V_reads' HO_0.out).2.2 x6_1 p104 q104
                    obtain rfl : ad102 = ad104 := (by injection e104)
                    obtain ⟨ce104, hce104, hMe104, hcc104⟩ := Kd.V_get HO_0.out z28 x6_1 p104 (by first | exact q104 | exact of_decide_eq_true (by first | (with_reducible assumption) | assumption) | (have e_ := (Kd.V_reads' HO_0.out).1; omega))
                    obtain ⟨ua104_6, uc104_6, rfl, ul104_6, ge104_6⟩ := k28_openF hMe104
                    have hv104_6 := hcc104 6 _ rfl
                    rw [add_field _ _ 6 (by omega)] at hv104_6
                    replace hv104_6 := Option.some.inj (hv104_6.symm.trans hx104_6)
                    injection hv104_6 with hva_ hvn_ hvc_
                    rw [hva_] at ge104_6
                    rw [hvc_] at ul104_6
                    have HL104_6 := Aside0.mk (show Kd.V k47 47 _ w.heap.size _ _ ((rd_T28 l0 x6_1).f6) from Kd.V_mk ul104_6 ge104_6)
                    clear hva_ hvn_ hvc_ ge104_6 ul104_6
                    clear hcc104 hce104
                    have HR104_6 := Aside0.mk hi104_6
                    have HC104_6 := Aside0.mk hl104_6
                    clear hi104_6 hl104_6
                    replace p104 := eq_true p104
                    replace q104 := eq_true q104
                    go_wp2
                    repeat (go_quiet (fail); try go_wp2)
                    go_roundg k1
                    case measure => have := HK1.out; omega
                    case rel => exact ⟨(x7_1), (wrap64 (x7_1 + 1)), (by first | rfl | (simp; done) | (simp [*]; done)), (by first | rfl | (simp; done) | (simp [*]; done)), H', ⟨by have := HK1.out; omega⟩, ⟨by (with_reducible repeat (first | apply Kd.V_alloc | apply Kd.V_drewN | apply Kd.V_drew)); exact HO_0.out⟩, ⟨by (with_reducible repeat (first | refine blk_drewN ?_ _ | refine blk_drew ?_ | refine blk_alloc ?_ _)); exact BK101.out⟩, ⟨by repeat (first | (with_reducible first | exact HB.out | apply below_alloc | apply pw_below_drewN | apply below_drew1 | refine below_set ?_ GE101.out) | exact HB.out)⟩⟩
                  · rw [if_neg c10] at H
                    have c10b0 : decide (((rd_T28 l0 x6_1).f1) < ((rd_T28 l0 x7_1).f1)) = false := decide_eq_false c10
                    clear c10
                    have H' := Aside0.mk H
                    clear H
                    have p102 : 0 ≤ (x7_1 : Int) := of_decide_eq_true (by first | (with_reducible assumption) | assumption)
                    have q102 : x7_1 < (l0.length : Int) := of_decide_eq_true (by first | (with_reducible assumption) | assumption)
                    obtain ⟨ad102, A102_6, c102_6, e102, hx102_0, hx102_1, hx102_2, hx102_3, hx102_4, hx102_5, hx102_6, hl102_6, hi102_6⟩ := at_T28 (Kd.V_reads' HO_0.out).2.2 x7_1 p102 q102
                    cases e102
                    obtain ⟨ce102, hce102, hMe102, hcc102⟩ := Kd.V_get HO_0.out z28 x7_1 p102 (by first | exact q102 | exact of_decide_eq_true (by first | (with_reducible assumption) | assumption) | (have e_ := (Kd.V_reads' HO_0.out).1; omega))
                    obtain ⟨ua102_6, uc102_6, rfl, ul102_6, ge102_6⟩ := k28_openF hMe102
                    have hv102_6 := hcc102 6 _ rfl
                    rw [add_field _ _ 6 (by omega)] at hv102_6
                    replace hv102_6 := Option.some.inj (hv102_6.symm.trans hx102_6)
                    injection hv102_6 with hva_ hvn_ hvc_
                    rw [hva_] at ge102_6
                    rw [hvc_] at ul102_6
                    have HL102_6 := Aside0.mk (show Kd.V k47 47 _ w.heap.size _ _ ((rd_T28 l0 x7_1).f6) from Kd.V_mk ul102_6 ge102_6)
                    clear hva_ hvn_ hvc_ ge102_6 ul102_6
                    clear hcc102 hce102
                    have HR102_6 := Aside0.mk hi102_6
                    have HC102_6 := Aside0.mk hl102_6
                    clear hi102_6 hl102_6
                    replace p102 := eq_true p102
                    replace q102 := eq_true q102
                    have p103 : 0 ≤ (x7_1 : Int) := of_decide_eq_true (by first | (with_reducible assumption) | assumption)
                    have q103 : x7_1 < (l0.length : Int) := of_decide_eq_true (by first | (with_reducible assumption) | assumption)
                    obtain ⟨ad103, A103_6, c103_6, e103, hx103_0, hx103_1, hx103_2, hx103_3, hx103_4, hx103_5, hx103_6, hl103_6, hi103_6⟩ := at_T28 (Kd.V_reads' HO_0.out).2.2 x7_1 p103 q103
                    obtain rfl : ad102 = ad103 := (by injection e103)
                    obtain ⟨ce103, hce103, hMe103, hcc103⟩ := Kd.V_get HO_0.out z28 x7_1 p103 (by first | exact q103 | exact of_decide_eq_true (by first | (with_reducible assumption) | assumption) | (have e_ := (Kd.V_reads' HO_0.out).1; omega))
                    obtain ⟨ua103_6, uc103_6, rfl, ul103_6, ge103_6⟩ := k28_openF hMe103
                    have hv103_6 := hcc103 6 _ rfl
                    rw [add_field _ _ 6 (by omega)] at hv103_6
                    replace hv103_6 := Option.some.inj (hv103_6.symm.trans hx103_6)
                    injection hv103_6 with hva_ hvn_ hvc_
                    rw [hva_] at ge103_6
                    rw [hvc_] at ul103_6
                    have HL103_6 := Aside0.mk (show Kd.V k47 47 _ w.heap.size _ _ ((rd_T28 l0 x7_1).f6) from Kd.V_mk ul103_6 ge103_6)
                    clear hva_ hvn_ hvc_ ge103_6 ul103_6
                    clear hcc103 hce103
                    have HR103_6 := Aside0.mk hi103_6
                    have HC103_6 := Aside0.mk hl103_6
                    clear hi103_6 hl103_6
                    replace p103 := eq_true p103
                    replace q103 := eq_true q103
                    have ea_ := Option.some.inj (hx102_6.symm.trans hx103_6)
                    injection ea_ with ea_ en_ ec_
                    subst ea_
                    subst ec_
                    clear en_
                    have p104 : 0 ≤ (x6_1 : Int) := of_decide_eq_true (by first | (with_reducible assumption) | assumption)
                    have q104 : x6_1 < (l0.length : Int) := of_decide_eq_true (by first | (with_reducible assumption) | assumption)
                    obtain ⟨ad104, A104_6, c104_6, e104, hx104_0, hx104_1, hx104_2, hx104_3, hx104_4, hx104_5, hx104_6, hl104_6, hi104_6⟩ := at_T28 (Kd.V_reads' HO_0.out).2.2 x6_1 p104 q104
                    obtain rfl : ad102 = ad104 := (by injection e104)
                    obtain ⟨ce104, hce104, hMe104, hcc104⟩ := Kd.V_get HO_0.out z28 x6_1 p104 (by first | exact q104 | exact of_decide_eq_true (by first | (with_reducible assumption) | assumption) | (have e_ := (Kd.V_reads' HO_0.out).1; omega))
                    obtain ⟨ua104_6, uc104_6, rfl, ul104_6, ge104_6⟩ := k28_openF hMe104
                    have hv104_6 := hcc104 6 _ rfl
                    rw [add_field _ _ 6 (by omega)] at hv104_6
                    replace hv104_6 := Option.some.inj (hv104_6.symm.trans hx104_6)
                    injection hv104_6 with hva_ hvn_ hvc_
                    rw [hva_] at ge104_6
                    rw [hvc_] at ul104_6
                    have HL104_6 := Aside0.mk (show Kd.V k47 47 _ w.heap.size _ _ ((rd_T28 l0 x6_1).f6) from Kd.V_mk ul104_6 ge104_6)
                    clear hva_ hvn_ hvc_ ge104_6 ul104_6
                    clear hcc104 hce104
                    have HR104_6 := Aside0.mk hi104_6
                    have HC104_6 := Aside0.mk hl104_6
                    clear hi104_6 hl104_6
                    replace p104 := eq_true p104
                    replace q104 := eq_true q104
                    go_wp2
                    repeat (go_quiet (fail); try go_wp2)
                    go_roundg k1
                    case measure => have := HK1.out; omega
                    case rel => exact ⟨(x6_1), (wrap64 (x7_1 + 1)), (by first | rfl | (simp; done) | (simp [*]; done)), (by first | rfl | (simp; done) | (simp [*]; done)), H', ⟨by have := HK1.out; omega⟩, ⟨by (with_reducible repeat (first | apply Kd.V_alloc | apply Kd.V_drewN | apply Kd.V_drew)); exact HO_0.out⟩, ⟨by (with_reducible repeat (first | refine blk_drewN ?_ _ | refine blk_drew ?_ | refine blk_alloc ?_ _)); exact BK101.out⟩, ⟨by repeat (first | (with_reducible first | exact HB.out | apply below_alloc | apply pw_below_drewN | apply below_drew1 | refine below_set ?_ GE101.out) | exact HB.out)⟩⟩
                · rw [if_neg c9] at H
                  exact absurd H (by simp)
              · rw [if_neg c8] at H
                exact absurd H (by simp)
          · rw [if_neg c6] at H
            have c6b0 : (((rd_T28 l0 x7_1).f0).toList == a1.toList) = false := beq_eq_false_iff_ne.mpr c6
            have c6b1 : (((rd_T28 l0 x7_1).f0).toList != a1.toList) = true := bne_iff_ne.mpr c6
            have H' := Aside0.mk H
            clear H
            have p102 : 0 ≤ (x7_1 : Int) := of_decide_eq_true (by first | (with_reducible assumption) | assumption)
            have q102 : x7_1 < (l0.length : Int) := of_decide_eq_true (by first | (with_reducible assumption) | assumption)
            obtain ⟨ad102, A102_6, c102_6, e102, hx102_0, hx102_1, hx102_2, hx102_3, hx102_4, hx102_5, hx102_6, hl102_6, hi102_6⟩ := at_T28 (Kd.V_reads' HO_0.out).2.2 x7_1 p102 q102
            cases e102
            obtain ⟨ce102, hce102, hMe102, hcc102⟩ := Kd.V_get HO_0.out z28 x7_1 p102 (by first | exact q102 | exact of_decide_eq_true (by first | (with_reducible assumption) | assumption) | (have e_ := (Kd.V_reads' HO_0.out).1; omega))
            obtain ⟨ua102_6, uc102_6, rfl, ul102_6, ge102_6⟩ := k28_openF hMe102
            have hv102_6 := hcc102 6 _ rfl
            rw [add_field _ _ 6 (by omega)] at hv102_6
            replace hv102_6 := Option.some.inj (hv102_6.symm.trans hx102_6)
            injection hv102_6 with hva_ hvn_ hvc_
            rw [hva_] at ge102_6
            rw [hvc_] at ul102_6
            have HL102_6 := Aside0.mk (show Kd.V k47 47 _ w.heap.size _ _ ((rd_T28 l0 x7_1).f6) from Kd.V_mk ul102_6 ge102_6)
            clear hva_ hvn_ hvc_ ge102_6 ul102_6
            clear hcc102 hce102
            have HR102_6 := Aside0.mk hi102_6
            have HC102_6 := Aside0.mk hl102_6
            clear hi102_6 hl102_6
            replace p102 := eq_true p102
            replace q102 := eq_true q102
            go_wp2
            repeat (go_quiet (fail); try go_wp2)
            go_roundg k1
            case measure => have := HK1.out; omega
            case rel => exact ⟨(x6_1), (wrap64 (x7_1 + 1)), (by first | rfl | (simp; done) | (simp [*]; done)), (by first | rfl | (simp; done) | (simp [*]; done)), H', ⟨by have := HK1.out; omega⟩, ⟨by (with_reducible repeat (first | apply Kd.V_alloc | apply Kd.V_drewN | apply Kd.V_drew)); exact HO_0.out⟩, ⟨by (with_reducible repeat (first | refine blk_drewN ?_ _ | refine blk_drew ?_ | refine blk_alloc ?_ _)); exact BK101.out⟩, ⟨by repeat (first | (with_reducible first | exact HB.out | apply below_alloc | apply pw_below_drewN | apply below_drew1 | refine below_set ?_ GE101.out) | exact HB.out)⟩⟩
        · rw [if_neg c5] at H
          exact absurd H (by simp)
      · rw [if_neg c4] at H
        have c4b0 : decide (x7_1 < (l0.length : Int)) = false := decide_eq_false c4
        clear c4
        by_cases c11 : x6_1 < 0
        · rw [if_pos c11] at H
          have c11b0 : decide (x6_1 < 0) = true := decide_eq_true c11
          clear c11
          simp only [Option.some.injEq, Prod.mk.injEq] at H
          obtain ⟨rfl, rfl, rfl, rfl, rfl, rfl, rfl, rfl⟩ := H
          have hcz12_0 : wr.cell? ⟨gb101, 0, none⟩ = some (.string (⟨#[]⟩ : ByteArray)) := (blk_cell BK101.out 0).trans rfl
          have hcz12_1 : wr.cell? ⟨gb101, 1, none⟩ = some (.int .i64 0) := (blk_cell BK101.out 1).trans rfl
          have hcz12_2 : wr.cell? ⟨gb101, 2, none⟩ = some (.int .i64 0) := (blk_cell BK101.out 2).trans rfl
          have hcz12_3 : wr.cell? ⟨gb101, 3, none⟩ = some (.int .i64 0) := (blk_cell BK101.out 3).trans rfl
          have hcz12_4 : wr.cell? ⟨gb101, 4, none⟩ = some (.int .i64 0) := (blk_cell BK101.out 4).trans rfl
          have hcz12_5 : wr.cell? ⟨gb101, 5, none⟩ = some (.bool false) := (blk_cell BK101.out 5).trans rfl
          have hcz12_6 : wr.cell? ⟨gb101, 6, none⟩ = some (.slice none 0 0) := (blk_cell BK101.out 6).trans rfl
          have hfz12_0 := blk_frozen BK101.out 0
          have hfz12_1 := blk_frozen BK101.out 1
          have hfz12_2 := blk_frozen BK101.out 2
          have hfz12_3 := blk_frozen BK101.out 3
          have hfz12_4 := blk_frozen BK101.out 4
          have hfz12_5 := blk_frozen BK101.out 5
          have hfz12_6 := blk_frozen BK101.out 6
          go_wp2
          repeat (go_quiet (fail); try go_wp2)
          refine bodyPost_ret (results_ct rfl _ _ gb101 28 #[.string (⟨#[]⟩ : ByteArray), .int .i64 0, .int .i64 0, .int .i64 0, .int .i64 0, .bool false, .slice none 0 0] (0, 0) _ rfl (by (with_reducible repeat (first | refine blk_drewN ?_ _ | refine blk_drew ?_ | refine blk_alloc ?_ _)); refine blk_put (cs := #[.string (⟨#[]⟩ : ByteArray), .int .i64 0, .int .i64 0, .int .i64 0, .int .i64 0, .bool false, .slice none 0 0]) ?_ 6 _ rfl; (with_reducible repeat (first | refine blk_drewN ?_ _ | refine blk_drew ?_ | refine blk_alloc ?_ _)); refine blk_put (cs := #[.string (⟨#[]⟩ : ByteArray), .int .i64 0, .int .i64 0, .int .i64 0, .int .i64 0, .bool false, .slice none 0 0]) ?_ 5 _ rfl; (with_reducible repeat (first | refine blk_drewN ?_ _ | refine blk_drew ?_ | refine blk_alloc ?_ _)); refine blk_put (cs := #[.string (⟨#[]⟩ : ByteArray), .int .i64 0, .int .i64 0, .int .i64 0, .int .i64 0, .bool false, .slice none 0 0]) ?_ 4 _ rfl; (with_reducible repeat (first | refine blk_drewN ?_ _ | refine blk_drew ?_ | refine blk_alloc ?_ _)); refine blk_put (cs := #[.string (⟨#[]⟩ : ByteArray), .int .i64 0, .int .i64 0, .int .i64 0, .int .i64 0, .bool false, .slice none 0 0]) ?_ 3 _ rfl; (with_reducible repeat (first | refine blk_drewN ?_ _ | refine blk_drew ?_ | refine blk_alloc ?_ _)); refine blk_put (cs := #[.string (⟨#[]⟩ : ByteArray), .int .i64 0, .int .i64 0, .int .i64 0, .int .i64 0, .bool false, .slice none 0 0]) ?_ 2 _ rfl; (with_reducible repeat (first | refine blk_drewN ?_ _ | refine blk_drew ?_ | refine blk_alloc ?_ _)); refine blk_put (cs := #[.string (⟨#[]⟩ : ByteArray), .int .i64 0, .int .i64 0, .int .i64 0, .int .i64 0, .bool false, .slice none 0 0]) ?_ 1 _ rfl; (with_reducible repeat (first | refine blk_drewN ?_ _ | refine blk_drew ?_ | refine blk_alloc ?_ _)); refine blk_put (cs := #[.string (⟨#[]⟩ : ByteArray), .int .i64 0, .int .i64 0, .int .i64 0, .int .i64 0, .bool false, .slice none 0 0]) ?_ 0 _ rfl; (with_reducible repeat (first | refine blk_drewN ?_ _ | refine blk_drew ?_ | refine blk_alloc ?_ _)); exact BK101.out) Try.underlying28 rfl (by kernel_rfl)) rfl ?_
          exact ⟨_, by first | rfl | (simp [errW_none, errW_some] <;> rfl) | (simp [*, errW_none, errW_some] <;> rfl), Kd.V_nil _ _ _ _ _, by repeat (first | (with_reducible first | exact HB.out | apply below_alloc | apply pw_below_drewN | apply below_drew1 | refine below_set ?_ GE101.out) | exact HB.out)⟩
        · rw [if_neg c11] at H
          have c11b0 : decide (x6_1 < 0) = false := decide_eq_false c11
          clear c11
          by_cases c13 : 0 ≤ x6_1
          · rw [if_pos c13] at H
            have c13b0 : decide (0 ≤ x6_1) = true := decide_eq_true c13
            clear c13
            by_cases c14 : x6_1 < (l0.length : Int)
            · rw [if_pos c14] at H
              have c14b0 : decide (x6_1 < (l0.length : Int)) = true := decide_eq_true c14
              clear c14
              obtain ⟨bq15, hbq15⟩ : ∃ b_ : Bool, b_ = ((rd_T28 l0 x6_1).f5) := ⟨_, rfl⟩
              replace H : (if bq15 = true then (some ((⟨#[]⟩ : ByteArray), 0, 0, 0, 0, false, ([] : List (S47)), false)) else (some ((rd_T28 l0 x6_1).f0, (rd_T28 l0 x6_1).f1, (rd_T28 l0 x6_1).f2, (rd_T28 l0 x6_1).f3, (rd_T28 l0 x6_1).f4, bq15, (rd_T28 l0 x6_1).f6, true))) = some (r1, r2, r3, r4, r5, r6, r7, r8) := by rw [← hbq15] at H; exact H
              have Nbq15 := Aside0.mk hbq15
              clear hbq15
              by_cases c16 : bq15 = true
              · subst c16
                have H1 : (some ((⟨#[]⟩ : ByteArray), 0, 0, 0, 0, false, ([] : List (S47)), false)) = some (r1, r2, r3, r4, r5, r6, r7, r8) := by rw [if_pos rfl] at H; exact H
                clear H
                have H := H1
                clear H1
                simp only [Option.some.injEq, Prod.mk.injEq] at H
                obtain ⟨rfl, rfl, rfl, rfl, rfl, rfl, rfl, rfl⟩ := H
                have p105 : 0 ≤ (x6_1 : Int) := of_decide_eq_true (by first | (with_reducible assumption) | assumption)
                have q105 : x6_1 < (l0.length : Int) := of_decide_eq_true (by first | (with_reducible assumption) | assumption)
                obtain ⟨ad105, A105_6, c105_6, e105, hx105_0, hx105_1, hx105_2, hx105_3, hx105_4, hx105_5, hx105_6, hl105_6, hi105_6⟩ := at_T28 (Kd.V_reads' HO_0.out).2.2 x6_1 p105 q105
                (try rw [← Nbq15.out] at hx105_5)
                cases e105
                obtain ⟨ce105, hce105, hMe105, hcc105⟩ := Kd.V_get HO_0.out z28 x6_1 p105 (by first | exact q105 | exact of_decide_eq_true (by first | (with_reducible assumption) | assumption) | (have e_ := (Kd.V_reads' HO_0.out).1; omega))
                obtain ⟨ua105_6, uc105_6, rfl, ul105_6, ge105_6⟩ := k28_openF hMe105
                have hv105_6 := hcc105 6 _ rfl
                rw [add_field _ _ 6 (by omega)] at hv105_6
                replace hv105_6 := Option.some.inj (hv105_6.symm.trans hx105_6)
                injection hv105_6 with hva_ hvn_ hvc_
                rw [hva_] at ge105_6
                rw [hvc_] at ul105_6
                have HL105_6 := Aside0.mk (show Kd.V k47 47 _ w.heap.size _ _ ((rd_T28 l0 x6_1).f6) from Kd.V_mk ul105_6 ge105_6)
                clear hva_ hvn_ hvc_ ge105_6 ul105_6
                clear hcc105 hce105
                have HR105_6 := Aside0.mk hi105_6
                have HC105_6 := Aside0.mk hl105_6
                clear hi105_6 hl105_6
                replace p105 := eq_true p105
                replace q105 := eq_true q105
                have hcz17_0 : wr.cell? ⟨gb101, 0, none⟩ = some (.string (⟨#[]⟩ : ByteArray)) := (blk_cell BK101.out 0).trans rfl
                have hcz17_1 : wr.cell? ⟨gb101, 1, none⟩ = some (.int .i64 0) := (blk_cell BK101.out 1).trans rfl
                have hcz17_2 : wr.cell? ⟨gb101, 2, none⟩ = some (.int .i64 0) := (blk_cell BK101.out 2).trans rfl
                have hcz17_3 : wr.cell? ⟨gb101, 3, none⟩ = some (.int .i64 0) := (blk_cell BK101.out 3).trans rfl
                have hcz17_4 : wr.cell? ⟨gb101, 4, none⟩ = some (.int .i64 0) := (blk_cell BK101.out 4).trans rfl
                have hcz17_5 : wr.cell? ⟨gb101, 5, none⟩ = some (.bool false) := (blk_cell BK101.out 5).trans rfl
                have hcz17_6 : wr.cell? ⟨gb101, 6, none⟩ = some (.slice none 0 0) := (blk_cell BK101.out 6).trans rfl
                have hfz17_0 := blk_frozen BK101.out 0
                have hfz17_1 := blk_frozen BK101.out 1
                have hfz17_2 := blk_frozen BK101.out 2
                have hfz17_3 := blk_frozen BK101.out 3
                have hfz17_4 := blk_frozen BK101.out 4
                have hfz17_5 := blk_frozen BK101.out 5
                have hfz17_6 := blk_frozen BK101.out 6
                go_wp2
                repeat (go_quiet (fail); try go_wp2)
                refine bodyPost_ret (results_ct rfl _ _ gb101 28 #[.string (⟨#[]⟩ : ByteArray), .int .i64 0, .int .i64 0, .int .i64 0, .int .i64 0, .bool false, .slice none 0 0] (0, 0) _ rfl (by (with_reducible repeat (first | refine blk_drewN ?_ _ | refine blk_drew ?_ | refine blk_alloc ?_ _)); refine blk_put (cs := #[.string (⟨#[]⟩ : ByteArray), .int .i64 0, .int .i64 0, .int .i64 0, .int .i64 0, .bool false, .slice none 0 0]) ?_ 6 _ rfl; (with_reducible repeat (first | refine blk_drewN ?_ _ | refine blk_drew ?_ | refine blk_alloc ?_ _)); refine blk_put (cs := #[.string (⟨#[]⟩ : ByteArray), .int .i64 0, .int .i64 0, .int .i64 0, .int .i64 0, .bool false, .slice none 0 0]) ?_ 5 _ rfl; (with_reducible repeat (first | refine blk_drewN ?_ _ | refine blk_drew ?_ | refine blk_alloc ?_ _)); refine blk_put (cs := #[.string (⟨#[]⟩ : ByteArray), .int .i64 0, .int .i64 0, .int .i64 0, .int .i64 0, .bool false, .slice none 0 0]) ?_ 4 _ rfl; (with_reducible repeat (first | refine blk_drewN ?_ _ | refine blk_drew ?_ | refine blk_alloc ?_ _)); refine blk_put (cs := #[.string (⟨#[]⟩ : ByteArray), .int .i64 0, .int .i64 0, .int .i64 0, .int .i64 0, .bool false, .slice none 0 0]) ?_ 3 _ rfl; (with_reducible repeat (first | refine blk_drewN ?_ _ | refine blk_drew ?_ | refine blk_alloc ?_ _)); refine blk_put (cs := #[.string (⟨#[]⟩ : ByteArray), .int .i64 0, .int .i64 0, .int .i64 0, .int .i64 0, .bool false, .slice none 0 0]) ?_ 2 _ rfl; (with_reducible repeat (first | refine blk_drewN ?_ _ | refine blk_drew ?_ | refine blk_alloc ?_ _)); refine blk_put (cs := #[.string (⟨#[]⟩ : ByteArray), .int .i64 0, .int .i64 0, .int .i64 0, .int .i64 0, .bool false, .slice none 0 0]) ?_ 1 _ rfl; (with_reducible repeat (first | refine blk_drewN ?_ _ | refine blk_drew ?_ | refine blk_alloc ?_ _)); refine blk_put (cs := #[.string (⟨#[]⟩ : ByteArray), .int .i64 0, .int .i64 0, .int .i64 0, .int .i64 0, .bool false, .slice none 0 0]) ?_ 0 _ rfl; (with_reducible repeat (first | refine blk_drewN ?_ _ | refine blk_drew ?_ | refine blk_alloc ?_ _)); exact BK101.out) Try.underlying28 rfl (by kernel_rfl)) rfl ?_
                exact ⟨_, by first | rfl | (simp [errW_none, errW_some] <;> rfl) | (simp [*, errW_none, errW_some] <;> rfl), Kd.V_nil _ _ _ _ _, by repeat (first | (with_reducible first | exact HB.out | apply below_alloc | apply pw_below_drewN | apply below_drew1 | refine below_set ?_ GE101.out) | exact HB.out)⟩
              · replace c16 := Bool.eq_false_iff.mpr c16
                subst c16
                have H1 : (some ((rd_T28 l0 x6_1).f0, (rd_T28 l0 x6_1).f1, (rd_T28 l0 x6_1).f2, (rd_T28 l0 x6_1).f3, (rd_T28 l0 x6_1).f4, false, (rd_T28 l0 x6_1).f6, true)) = some (r1, r2, r3, r4, r5, r6, r7, r8) := by rw [if_neg (show ¬ (false = true) by decide)] at H; exact H
                clear H
                have H := H1
                clear H1
                simp only [Option.some.injEq, Prod.mk.injEq] at H
                obtain ⟨rfl, rfl, rfl, rfl, rfl, rfl, rfl, rfl⟩ := H
                have p105 : 0 ≤ (x6_1 : Int) := of_decide_eq_true (by first | (with_reducible assumption) | assumption)
                have q105 : x6_1 < (l0.length : Int) := of_decide_eq_true (by first | (with_reducible assumption) | assumption)
                obtain ⟨ad105, A105_6, c105_6, e105, hx105_0, hx105_1, hx105_2, hx105_3, hx105_4, hx105_5, hx105_6, hl105_6, hi105_6⟩ := at_T28 (Kd.V_reads' HO_0.out).2.2 x6_1 p105 q105
                (try rw [← Nbq15.out] at hx105_5)
                cases e105
                obtain ⟨ce105, hce105, hMe105, hcc105⟩ := Kd.V_get HO_0.out z28 x6_1 p105 (by first | exact q105 | exact of_decide_eq_true (by first | (with_reducible assumption) | assumption) | (have e_ := (Kd.V_reads' HO_0.out).1; omega))
                obtain ⟨ua105_6, uc105_6, rfl, ul105_6, ge105_6⟩ := k28_openF hMe105
                have hv105_6 := hcc105 6 _ rfl
                rw [add_field _ _ 6 (by omega)] at hv105_6
                replace hv105_6 := Option.some.inj (hv105_6.symm.trans hx105_6)
                injection hv105_6 with hva_ hvn_ hvc_
                rw [hva_] at ge105_6
                rw [hvc_] at ul105_6
                have HL105_6 := Aside0.mk (show Kd.V k47 47 _ w.heap.size _ _ ((rd_T28 l0 x6_1).f6) from Kd.V_mk ul105_6 ge105_6)
                clear hva_ hvn_ hvc_ ge105_6 ul105_6
                clear hcc105 hce105
                have HR105_6 := Aside0.mk hi105_6
                have HC105_6 := Aside0.mk hl105_6
                clear hi105_6 hl105_6
                replace p105 := eq_true p105
                replace q105 := eq_true q105
                have p106 : 0 ≤ (x6_1 : Int) := of_decide_eq_true (by first | (with_reducible assumption) | assumption)
                have q106 : x6_1 < (l0.length : Int) := of_decide_eq_true (by first | (with_reducible assumption) | assumption)
                obtain ⟨ad106, A106_6, c106_6, e106, hx106_0, hx106_1, hx106_2, hx106_3, hx106_4, hx106_5, hx106_6, hl106_6, hi106_6⟩ := at_T28 (Kd.V_reads' HO_0.out).2.2 x6_1 p106 q106
                (try rw [← Nbq15.out] at hx106_5)
                obtain rfl : ad105 = ad106 := (by injection e106)
                obtain ⟨ce106, hce106, hMe106, hcc106⟩ := Kd.V_get HO_0.out z28 x6_1 p106 (by first | exact q106 | exact of_decide_eq_true (by first | (with_reducible assumption) | assumption) | (have e_ := (Kd.V_reads' HO_0.out).1; omega))
                obtain ⟨ua106_6, uc106_6, rfl, ul106_6, ge106_6⟩ := k28_openF hMe106
                have hv106_6 := hcc106 6 _ rfl
                rw [add_field _ _ 6 (by omega)] at hv106_6
                replace hv106_6 := Option.some.inj (hv106_6.symm.trans hx106_6)
                injection hv106_6 with hva_ hvn_ hvc_
                rw [hva_] at ge106_6
                rw [hvc_] at ul106_6
                have HL106_6 := Aside0.mk (show Kd.V k47 47 _ w.heap.size _ _ ((rd_T28 l0 x6_1).f6) from Kd.V_mk ul106_6 ge106_6)
                clear hva_ hvn_ hvc_ ge106_6 ul106_6
                clear hcc106 hce106
                have HR106_6 := Aside0.mk hi106_6
                have HC106_6 := Aside0.mk hl106_6
                clear hi106_6 hl106_6
                replace p106 := eq_true p106
                replace q106 := eq_true q106
                have ea_ := Option.some.inj (hx105_6.symm.trans hx106_6)
                injection ea_ with ea_ en_ ec_
                subst ea_
                subst ec_
                clear en_
                have hcz18_0 : wr.cell? ⟨gb101, 0, none⟩ = some (.string (⟨#[]⟩ : ByteArray)) := (blk_cell BK101.out 0).trans rfl
                have hcz18_1 : wr.cell? ⟨gb101, 1, none⟩ = some (.int .i64 0) := (blk_cell BK101.out 1).trans rfl
                have hcz18_2 : wr.cell? ⟨gb101, 2, none⟩ = some (.int .i64 0) := (blk_cell BK101.out 2).trans rfl
                have hcz18_3 : wr.cell? ⟨gb101, 3, none⟩ = some (.int .i64 0) := (blk_cell BK101.out 3).trans rfl
                have hcz18_4 : wr.cell? ⟨gb101, 4, none⟩ = some (.int .i64 0) := (blk_cell BK101.out 4).trans rfl
                have hcz18_5 : wr.cell? ⟨gb101, 5, none⟩ = some (.bool false) := (blk_cell BK101.out 5).trans rfl
                have hcz18_6 : wr.cell? ⟨gb101, 6, none⟩ = some (.slice none 0 0) := (blk_cell BK101.out 6).trans rfl
                have hfz18_0 := blk_frozen BK101.out 0
                have hfz18_1 := blk_frozen BK101.out 1
                have hfz18_2 := blk_frozen BK101.out 2
                have hfz18_3 := blk_frozen BK101.out 3
                have hfz18_4 := blk_frozen BK101.out 4
                have hfz18_5 := blk_frozen BK101.out 5
                have hfz18_6 := blk_frozen BK101.out 6
                go_wp2
                repeat (go_quiet (fail); try go_wp2)
                refine bodyPost_ret (results_ct rfl _ _ gb101 28 #[.string ((rd_T28 l0 x6_1).f0), .int .i64 ((rd_T28 l0 x6_1).f1), .int .i64 ((rd_T28 l0 x6_1).f2), .int .i64 ((rd_T28 l0 x6_1).f3), .int .i64 ((rd_T28 l0 x6_1).f4), .bool false, .slice A105_6 ((rd_T28 l0 x6_1).f6).length c105_6] (0, 0) _ rfl (by (with_reducible repeat (first | refine blk_drewN ?_ _ | refine blk_drew ?_ | refine blk_alloc ?_ _)); refine blk_put (cs := #[.string ((rd_T28 l0 x6_1).f0), .int .i64 ((rd_T28 l0 x6_1).f1), .int .i64 ((rd_T28 l0 x6_1).f2), .int .i64 ((rd_T28 l0 x6_1).f3), .int .i64 ((rd_T28 l0 x6_1).f4), .bool false, .slice none 0 0]) ?_ 6 _ rfl; (with_reducible repeat (first | refine blk_drewN ?_ _ | refine blk_drew ?_ | refine blk_alloc ?_ _)); refine blk_put (cs := #[.string ((rd_T28 l0 x6_1).f0), .int .i64 ((rd_T28 l0 x6_1).f1), .int .i64 ((rd_T28 l0 x6_1).f2), .int .i64 ((rd_T28 l0 x6_1).f3), .int .i64 ((rd_T28 l0 x6_1).f4), .bool false, .slice none 0 0]) ?_ 5 _ rfl; (with_reducible repeat (first | refine blk_drewN ?_ _ | refine blk_drew ?_ | refine blk_alloc ?_ _)); refine blk_put (cs := #[.string ((rd_T28 l0 x6_1).f0), .int .i64 ((rd_T28 l0 x6_1).f1), .int .i64 ((rd_T28 l0 x6_1).f2), .int .i64 ((rd_T28 l0 x6_1).f3), .int .i64 0, .bool false, .slice none 0 0]) ?_ 4 _ rfl; (with_reducible repeat (first | refine blk_drewN ?_ _ | refine blk_drew ?_ | refine blk_alloc ?_ _)); refine blk_put (cs := #[.string ((rd_T28 l0 x6_1).f0), .int .i64 ((rd_T28 l0 x6_1).f1), .int .i64 ((rd_T28 l0 x6_1).f2), .int .i64 0, .int .i64 0, .bool false, .slice none 0 0]) ?_ 3 _ rfl; (with_reducible repeat (first | refine blk_drewN ?_ _ | refine blk_drew ?_ | refine blk_alloc ?_ _)); refine blk_put (cs := #[.string ((rd_T28 l0 x6_1).f0), .int .i64 ((rd_T28 l0 x6_1).f1), .int .i64 0, .int .i64 0, .int .i64 0, .bool false, .slice none 0 0]) ?_ 2 _ rfl; (with_reducible repeat (first | refine blk_drewN ?_ _ | refine blk_drew ?_ | refine blk_alloc ?_ _)); refine blk_put (cs := #[.string ((rd_T28 l0 x6_1).f0), .int .i64 0, .int .i64 0, .int .i64 0, .int .i64 0, .bool false, .slice none 0 0]) ?_ 1 _ rfl; (with_reducible repeat (first | refine blk_drewN ?_ _ | refine blk_drew ?_ | refine blk_alloc ?_ _)); refine blk_put (cs := #[.string (⟨#[]⟩ : ByteArray), .int .i64 0, .int .i64 0, .int .i64 0, .int .i64 0, .bool false, .slice none 0 0]) ?_ 0 _ rfl; (with_reducible repeat (first | refine blk_drewN ?_ _ | refine blk_drew ?_ | refine blk_alloc ?_ _)); exact BK101.out) Try.underlying28 rfl (by kernel_rfl)) rfl ?_
                exact ⟨_, by first | rfl | (simp [errW_none, errW_some] <;> rfl) | (simp [*, errW_none, errW_some] <;> rfl), by (with_reducible repeat (first | apply Kd.V_alloc | apply Kd.V_drewN | apply Kd.V_drew)); exact Kd.V_mono (Kd.V_far (p := ⟨gb101, 6, none⟩) (Kd.V_far (p := ⟨gb101, 5, none⟩) (Kd.V_far (p := ⟨gb101, 4, none⟩) (Kd.V_far (p := ⟨gb101, 3, none⟩) (Kd.V_far (p := ⟨gb101, 2, none⟩) (Kd.V_far (p := ⟨gb101, 1, none⟩) (Kd.V_far (p := ⟨gb101, 0, none⟩) (Kd.V_mono HL106_6.out (fun k_ hk => (⟨hk, hk.2⟩ : _ ∧ k_ ≠ gb101))) (fun _ hk => hk.2) (.string ((rd_T28 l0 x6_1).f0))) (fun _ hk => hk.2) (.int .i64 ((rd_T28 l0 x6_1).f1))) (fun _ hk => hk.2) (.int .i64 ((rd_T28 l0 x6_1).f2))) (fun _ hk => hk.2) (.int .i64 ((rd_T28 l0 x6_1).f3))) (fun _ hk => hk.2) (.int .i64 ((rd_T28 l0 x6_1).f4))) (fun _ hk => hk.2) (.bool false)) (fun _ hk => hk.2) (.slice A105_6 ((rd_T28 l0 x6_1).f6).length c105_6)) (fun _ hk => hk.1.1), by repeat (first | (with_reducible first | exact HB.out | apply below_alloc | apply pw_below_drewN | apply below_drew1 | refine below_set ?_ GE101.out) | exact HB.out)⟩
            · rw [if_neg c14] at H
              exact absurd H (by simp)
          · rw [if_neg c13] at H
            exact absurd H (by simp)

/-! ### cartridgeref10_Next: function 14 -/
def cartridgeref10_Next.l0 : Nat → List (S28) → ByteArray → Int → Int → Option (Int)
  | 0, _, _, _, _ => none
  | k + 1, x0, x1, x5, x6 => if x6 < (x0.length : Int) then (if 0 ≤ x6 then (if ((rd_T28 x0 x6).f0).toList = x1.toList then (if x5 < 0 then (cartridgeref10_Next.l0 k x0 x1 x6 (wrap64 (x6 + 1))) else (if 0 ≤ x5 then (if x5 < (x0.length : Int) then (if ((rd_T28 x0 x6).f1) > ((rd_T28 x0 x5).f1) then (cartridgeref10_Next.l0 k x0 x1 x6 (wrap64 (x6 + 1))) else (cartridgeref10_Next.l0 k x0 x1 x5 (wrap64 (x6 + 1)))) else (none)) else (none))) else (cartridgeref10_Next.l0 k x0 x1 x5 (wrap64 (x6 + 1)))) else (none)) else (if x5 < 0 then (some 1) else (if 0 ≤ x5 then (if x5 < (x0.length : Int) then (some (wrap64 (((rd_T28 x0 x5).f1) + 1))) else (none)) else (none)))
def cartridgeref10_Next.f (k : Nat) (l0 : List (S28)) (a1 : ByteArray) : Option (Int) := cartridgeref10_Next.l0 k l0 a1 (-1) 0
theorem cartridgeref10_Next.mono_l : ∀ k, (∀ y0 y1 y2 y3, LeO (cartridgeref10_Next.l0 k y0 y1 y2 y3) (cartridgeref10_Next.l0 (k + 1) y0 y1 y2 y3))
  | 0 => fun _ _ _ _ r h => by simp [cartridgeref10_Next.l0] at h
  | k + 1 => by
    have ih0 := cartridgeref10_Next.mono_l k
    · intro y0 y1 y2 y3
      unfold cartridgeref10_Next.l0
      repeat' first
      | (with_reducible exact ih0 _ _ _ _)
      | (with_reducible exact LeO.refl _)
      | (with_reducible exact LeO.none _)
      | (with_reducible refine LeO.ite ?_ ?_)
      | (with_reducible refine LeO.bind ?_ (fun _ => ?_))
      | exact ih0 _ _ _ _
      | exact LeO.none _
      | refine LeO.ite ?_ ?_
      | refine LeO.bind ?_ (fun _ => ?_)
theorem cartridgeref10_Next.mono : ∀ a0 a1 k, LeO (cartridgeref10_Next.f k a0 a1) (cartridgeref10_Next.f (k + 1) a0 a1) := by
  intro a0 a1 k
  have ih0 := cartridgeref10_Next.mono_l k
  unfold cartridgeref10_Next.f
  repeat' first
      | (with_reducible exact ih0 _ _ _ _)
      | (with_reducible exact LeO.refl _)
      | (with_reducible exact LeO.none _)
      | (with_reducible refine LeO.ite ?_ ?_)
      | (with_reducible refine LeO.bind ?_ (fun _ => ?_))
      | exact ih0 _ _ _ _
      | exact LeO.none _
      | refine LeO.ite ?_ ?_
      | refine LeO.bind ?_ (fun _ => ?_)
set_option maxHeartbeats 8000000 in
set_option maxRecDepth 100000 in
theorem cartridgeref10_Next.calls (k : Nat) (A0 : Option Addr) (c0 : Nat) (l0 : List (S28)) (a1 : ByteArray) (r : Int) (w : World) (hr0 : Kd.C k28 w A0 l0.length l0) (hc0 : l0.length ≤ c0) (h : cartridgeref10_Next.f k l0 a1 = some r) :
    Calls Try.prog 14 #[.slice A0 l0.length c0, .string a1] w fun e w' => e = .returned (.int .i64 r) ∧ Drawn0 w w' := by
  have HR0 := Aside0.mk hr0
  have HC0 := Aside0.mk hc0
  clear hr0 hc0
  have H : (cartridgeref10_Next.l0 k l0 a1 (-1) 0) = some r := h
  clear h
  have H' := Aside0.mk H
  clear H
  go_enter Try.func14, Try.ntmps14
  go_wp2
  repeat (go_quiet (fail); try go_wp2)
  go_loopg [5, 6] k (fun kq v5 v6 w' => ∃ (x5_1 : Int) (x6_1 : Int), v5 = .int .i64 x5_1 ∧ v6 = .int .i64 x6_1 ∧ Aside0 (cartridgeref10_Next.l0 kq l0 a1 x5_1 x6_1 = some r) ∧ Aside0 (kq ≤ k) ∧ Drawn0 w w')
  case atStart => exact ⟨((-1)), (0), (by first | rfl | (simp; done) | (simp [*]; done)), (by first | rfl | (simp; done) | (simp [*]; done)), H', ⟨Nat.le_refl _⟩, by repeat (first | exact Drawn0.refl _ | apply Drawn0.step)⟩
  case round =>
    clear H'
    try clear c1
    try clear p2
    obtain ⟨x5_1, x6_1, rfl, rfl, HA, HK1, ⟨m1, rfl⟩⟩ := hrel
    cases gk with
    | zero => exact absurd HA.out (by simp [cartridgeref10_Next.l0])
    | succ k1 =>
      have H := HA.out
      clear HA
      simp only [cartridgeref10_Next.l0] at H
      by_cases c3 : x6_1 < (l0.length : Int)
      · rw [if_pos c3] at H
        have c3b0 : decide (x6_1 < (l0.length : Int)) = true := decide_eq_true c3
        clear c3
        by_cases c4 : 0 ≤ x6_1
        · rw [if_pos c4] at H
          have c4b0 : decide (0 ≤ x6_1) = true := decide_eq_true c4
          clear c4
          by_cases c5 : ((rd_T28 l0 x6_1).f0).toList = a1.toList
          · rw [if_pos c5] at H
            have c5b0 : (((rd_T28 l0 x6_1).f0).toList == a1.toList) = true := beq_iff_eq.mpr c5
            have c5b1 : (((rd_T28 l0 x6_1).f0).toList != a1.toList) = false := bne_eq_false_iff_eq.mpr c5
            clear c5
            by_cases c6 : x5_1 < 0
            · rw [if_pos c6] at H
              have c6b0 : decide (x5_1 < 0) = true := decide_eq_true c6
              clear c6
              have H' := Aside0.mk H
              clear H
              have p107 : 0 ≤ (x6_1 : Int) := of_decide_eq_true (by first | (with_reducible assumption) | assumption)
              have q107 : x6_1 < (l0.length : Int) := of_decide_eq_true (by first | (with_reducible assumption) | assumption)
              obtain ⟨ad107, A107_6, c107_6, e107, hx107_0, hx107_1, hx107_2, hx107_3, hx107_4, hx107_5, hx107_6, hl107_6, hi107_6⟩ := at_T28 HR0.out x6_1 p107 q107
              cases e107
              have HR107_6 := Aside0.mk hi107_6
              have HC107_6 := Aside0.mk hl107_6
              clear hi107_6 hl107_6
              replace p107 := eq_true p107
              replace q107 := eq_true q107
              go_wp2
              repeat (go_quiet (fail); try go_wp2)
              go_roundg k1
              case measure => have := HK1.out; omega
              case rel => exact ⟨(x6_1), (wrap64 (x6_1 + 1)), (by first | rfl | (simp; done) | (simp [*]; done)), (by first | rfl | (simp; done) | (simp [*]; done)), H', ⟨by have := HK1.out; omega⟩, by repeat (first | exact Drawn0.refl _ | apply Drawn0.step)⟩
            · rw [if_neg c6] at H
              have c6b0 : decide (x5_1 < 0) = false := decide_eq_false c6
              clear c6
              by_cases c7 : 0 ≤ x5_1
              · rw [if_pos c7] at H
                have c7b0 : decide (0 ≤ x5_1) = true := decide_eq_true c7
                clear c7
                by_cases c8 : x5_1 < (l0.length : Int)
                · rw [if_pos c8] at H
                  have c8b0 : decide (x5_1 < (l0.length : Int)) = true := decide_eq_true c8
                  clear c8
                  by_cases c9 : ((rd_T28 l0 x6_1).f1) > ((rd_T28 l0 x5_1).f1)
                  · rw [if_pos c9] at H
                    have c9b0 : decide (((rd_T28 l0 x5_1).f1) < ((rd_T28 l0 x6_1).f1)) = true := decide_eq_true c9
                    clear c9
                    have H' := Aside0.mk H
                    clear H
                    have p107 : 0 ≤ (x6_1 : Int) := of_decide_eq_true (by first | (with_reducible assumption) | assumption)
                    have q107 : x6_1 < (l0.length : Int) := of_decide_eq_true (by first | (with_reducible assumption) | assumption)
                    obtain ⟨ad107, A107_6, c107_6, e107, hx107_0, hx107_1, hx107_2, hx107_3, hx107_4, hx107_5, hx107_6, hl107_6, hi107_6⟩ := at_T28 HR0.out x6_1 p107 q107
                    cases e107
                    have HR107_6 := Aside0.mk hi107_6
                    have HC107_6 := Aside0.mk hl107_6
                    clear hi107_6 hl107_6
                    replace p107 := eq_true p107
                    replace q107 := eq_true q107
                    have p108 : 0 ≤ (x6_1 : Int) := of_decide_eq_true (by first | (with_reducible assumption) | assumption)
                    have q108 : x6_1 < (l0.length : Int) := of_decide_eq_true (by first | (with_reducible assumption) | assumption)
                    obtain ⟨ad108, A108_6, c108_6, e108, hx108_0, hx108_1, hx108_2, hx108_3, hx108_4, hx108_5, hx108_6, hl108_6, hi108_6⟩ := at_T28 HR0.out x6_1 p108 q108
                    obtain rfl : ad107 = ad108 := (by injection e108)
                    have HR108_6 := Aside0.mk hi108_6
                    have HC108_6 := Aside0.mk hl108_6
                    clear hi108_6 hl108_6
                    replace p108 := eq_true p108
                    replace q108 := eq_true q108
                    have ea_ := Option.some.inj (hx107_6.symm.trans hx108_6)
                    injection ea_ with ea_ en_ ec_
                    subst ea_
                    subst ec_
                    clear en_
                    have p109 : 0 ≤ (x5_1 : Int) := of_decide_eq_true (by first | (with_reducible assumption) | assumption)
                    have q109 : x5_1 < (l0.length : Int) := of_decide_eq_true (by first | (with_reducible assumption) | assumption)
                    obtain ⟨ad109, A109_6, c109_6, e109, hx109_0, hx109_1, hx109_2, hx109_3, hx109_4, hx109_5, hx109_6, hl109_6, hi109_6⟩ := at_T28 HR0.out x5_1 p109 q109
                    obtain rfl : ad107 = ad109 := (by injection e109)
                    have HR109_6 := Aside0.mk hi109_6
                    have HC109_6 := Aside0.mk hl109_6
                    clear hi109_6 hl109_6
                    replace p109 := eq_true p109
                    replace q109 := eq_true q109
                    go_wp2
                    repeat (go_quiet (fail); try go_wp2)
                    go_roundg k1
                    case measure => have := HK1.out; omega
                    case rel => exact ⟨(x6_1), (wrap64 (x6_1 + 1)), (by first | rfl | (simp; done) | (simp [*]; done)), (by first | rfl | (simp; done) | (simp [*]; done)), H', ⟨by have := HK1.out; omega⟩, by repeat (first | exact Drawn0.refl _ | apply Drawn0.step)⟩
                  · rw [if_neg c9] at H
                    have c9b0 : decide (((rd_T28 l0 x5_1).f1) < ((rd_T28 l0 x6_1).f1)) = false := decide_eq_false c9
                    clear c9
                    have H' := Aside0.mk H
                    clear H
                    have p107 : 0 ≤ (x6_1 : Int) := of_decide_eq_true (by first | (with_reducible assumption) | assumption)
                    have q107 : x6_1 < (l0.length : Int) := of_decide_eq_true (by first | (with_reducible assumption) | assumption)
                    obtain ⟨ad107, A107_6, c107_6, e107, hx107_0, hx107_1, hx107_2, hx107_3, hx107_4, hx107_5, hx107_6, hl107_6, hi107_6⟩ := at_T28 HR0.out x6_1 p107 q107
                    cases e107
                    have HR107_6 := Aside0.mk hi107_6
                    have HC107_6 := Aside0.mk hl107_6
                    clear hi107_6 hl107_6
                    replace p107 := eq_true p107
                    replace q107 := eq_true q107
                    have p108 : 0 ≤ (x6_1 : Int) := of_decide_eq_true (by first | (with_reducible assumption) | assumption)
                    have q108 : x6_1 < (l0.length : Int) := of_decide_eq_true (by first | (with_reducible assumption) | assumption)
                    obtain ⟨ad108, A108_6, c108_6, e108, hx108_0, hx108_1, hx108_2, hx108_3, hx108_4, hx108_5, hx108_6, hl108_6, hi108_6⟩ := at_T28 HR0.out x6_1 p108 q108
                    obtain rfl : ad107 = ad108 := (by injection e108)
                    have HR108_6 := Aside0.mk hi108_6
                    have HC108_6 := Aside0.mk hl108_6
                    clear hi108_6 hl108_6
                    replace p108 := eq_true p108
                    replace q108 := eq_true q108
                    have ea_ := Option.some.inj (hx107_6.symm.trans hx108_6)
                    injection ea_ with ea_ en_ ec_
                    subst ea_
                    subst ec_
                    clear en_
                    have p109 : 0 ≤ (x5_1 : Int) := of_decide_eq_true (by first | (with_reducible assumption) | assumption)
                    have q109 : x5_1 < (l0.length : Int) := of_decide_eq_true (by first | (with_reducible assumption) | assumption)
                    obtain ⟨ad109, A109_6, c109_6, e109, hx109_0, hx109_1, hx109_2, hx109_3, hx109_4, hx109_5, hx109_6, hl109_6, hi109_6⟩ := at_T28 HR0.out x5_1 p109 q109
                    obtain rfl : ad107 = ad109 := (by injection e109)
                    have HR109_6 := Aside0.mk hi109_6
                    have HC109_6 := Aside0.mk hl109_6
                    clear hi109_6 hl109_6
                    replace p109 := eq_true p109
                    replace q109 := eq_true q109
                    go_wp2
                    repeat (go_quiet (fail); try go_wp2)
                    go_roundg k1
                    case measure => have := HK1.out; omega
                    case rel => exact ⟨(x5_1), (wrap64 (x6_1 + 1)), (by first | rfl | (simp; done) | (simp [*]; done)), (by first | rfl | (simp; done) | (simp [*]; done)), H', ⟨by have := HK1.out; omega⟩, by repeat (first | exact Drawn0.refl _ | apply Drawn0.step)⟩
                · rw [if_neg c8] at H
                  exact absurd H (by simp)
              · rw [if_neg c7] at H
                exact absurd H (by simp)
          · rw [if_neg c5] at H
            have c5b0 : (((rd_T28 l0 x6_1).f0).toList == a1.toList) = false := beq_eq_false_iff_ne.mpr c5
            have c5b1 : (((rd_T28 l0 x6_1).f0).toList != a1.toList) = true := bne_iff_ne.mpr c5
            have H' := Aside0.mk H
            clear H
            have p107 : 0 ≤ (x6_1 : Int) := of_decide_eq_true (by first | (with_reducible assumption) | assumption)
            have q107 : x6_1 < (l0.length : Int) := of_decide_eq_true (by first | (with_reducible assumption) | assumption)
            obtain ⟨ad107, A107_6, c107_6, e107, hx107_0, hx107_1, hx107_2, hx107_3, hx107_4, hx107_5, hx107_6, hl107_6, hi107_6⟩ := at_T28 HR0.out x6_1 p107 q107
            cases e107
            have HR107_6 := Aside0.mk hi107_6
            have HC107_6 := Aside0.mk hl107_6
            clear hi107_6 hl107_6
            replace p107 := eq_true p107
            replace q107 := eq_true q107
            go_wp2
            repeat (go_quiet (fail); try go_wp2)
            go_roundg k1
            case measure => have := HK1.out; omega
            case rel => exact ⟨(x5_1), (wrap64 (x6_1 + 1)), (by first | rfl | (simp; done) | (simp [*]; done)), (by first | rfl | (simp; done) | (simp [*]; done)), H', ⟨by have := HK1.out; omega⟩, by repeat (first | exact Drawn0.refl _ | apply Drawn0.step)⟩
        · rw [if_neg c4] at H
          exact absurd H (by simp)
      · rw [if_neg c3] at H
        have c3b0 : decide (x6_1 < (l0.length : Int)) = false := decide_eq_false c3
        clear c3
        by_cases c10 : x5_1 < 0
        · rw [if_pos c10] at H
          have c10b0 : decide (x5_1 < 0) = true := decide_eq_true c10
          clear c10
          obtain rfl := Option.some.inj H
          go_wp2
          repeat (go_quiet (fail); try go_wp2)
          go_ret
          exact ⟨by first | rfl | (simp; done) | (simp [*]; done), by repeat (first | exact Drawn0.refl _ | apply Drawn0.step)⟩
        · rw [if_neg c10] at H
          have c10b0 : decide (x5_1 < 0) = false := decide_eq_false c10
          clear c10
          by_cases c11 : 0 ≤ x5_1
          · rw [if_pos c11] at H
            have c11b0 : decide (0 ≤ x5_1) = true := decide_eq_true c11
            clear c11
            by_cases c12 : x5_1 < (l0.length : Int)
            · rw [if_pos c12] at H
              have c12b0 : decide (x5_1 < (l0.length : Int)) = true := decide_eq_true c12
              clear c12
              obtain rfl := Option.some.inj H
              have p110 : 0 ≤ (x5_1 : Int) := of_decide_eq_true (by first | (with_reducible assumption) | assumption)
              have q110 : x5_1 < (l0.length : Int) := of_decide_eq_true (by first | (with_reducible assumption) | assumption)
              obtain ⟨ad110, A110_6, c110_6, e110, hx110_0, hx110_1, hx110_2, hx110_3, hx110_4, hx110_5, hx110_6, hl110_6, hi110_6⟩ := at_T28 HR0.out x5_1 p110 q110
              cases e110
              have HR110_6 := Aside0.mk hi110_6
              have HC110_6 := Aside0.mk hl110_6
              clear hi110_6 hl110_6
              replace p110 := eq_true p110
              replace q110 := eq_true q110
              go_wp2
              repeat (go_quiet (fail); try go_wp2)
              go_ret
              exact ⟨by first | rfl | (simp; done) | (simp [*]; done), by repeat (first | exact Drawn0.refl _ | apply Drawn0.step)⟩
            · rw [if_neg c12] at H
              exact absurd H (by simp)
          · rw [if_neg c11] at H
            exact absurd H (by simp)

end Go.Proofs.Ytjmbedbapoofdaa.P
