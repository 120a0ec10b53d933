-- Printed by a program of this session (wip/tools/pp.py, over the kit's print).
import Derived.Test.YtjmbedbapoofdaaPx0
import Derived.Test.YtjmbedbapoofdaaPx5
import Derived.Test.YtjmbedbapoofdaaPx6
import Derived.Test.YtjmbedbapoofdaaMGet
namespace Go.Proofs.Ytjmbedbapoofdaa.P
open Go.RowKit Go.Proofs.YtjmbedbapoofdaaW.PrintWords Go.Proofs.YtjmbedbapoofdaaW.PrintLast Go.Proofs.YtjmbedbapoofdaaW.PrintMore
attribute [local go_sem] max2_int min2_int max_two min_two max_three min_three max_four min_four   -- for this text's walks alone
set_option linter.unusedVariables false
set_option linter.unusedSimpArgs false

-- NOT PRINTED: function 4 (cartridgelaw18_ListingTells)

/-! ### cartridgelaw18_ListingNext: function 5 -/
mutual
def cartridgelaw18_ListingNext.j0 : Nat → Int → Int → Bool → Bool → Bool → Option (Bool)
  | 0, _, _, _, _, _ => none
  | k + 1, x0, x1, x2, x7, x35 => if x35 = true then (some x7) else (cartridgelaw18_ListingNext.l0 k x0 x1 x2 ([] : List (S28)) 0)
def cartridgelaw18_ListingNext.l0 : Nat → Int → Int → Bool → List (S28) → Int → Option (Bool)
  | 0, _, _, _, _, _ => none
  | k + 1, x0, x1, x2, x8, x9 => if x9 < x0 then (if x2 = true then (if x8.length < 1759218604441 then (cartridgelaw18_ListingNext.l0 k x0 x1 x2 (x8 ++ [(⟨(⟨#[97]⟩ : ByteArray), wrap64 (x9 + 1), 0, 0, wrap64 ((wrap64 (2 * x9)) + 1), (x9 == (wrap64 (x0 - 1))), ([] : List (S47))⟩ : S28)]) (wrap64 (x9 + 1))) else (none)) else (if x8.length < 1759218604441 then (cartridgelaw18_ListingNext.l0 k x0 x1 x2 (x8 ++ [(⟨(⟨#[97]⟩ : ByteArray), wrap64 (x9 + 1), 0, 0, wrap64 ((wrap64 (2 * x9)) + 1), false, ([] : List (S47))⟩ : S28)]) (wrap64 (x9 + 1))) else (none))) else (cartridgelaw18_ListingNext.l1 k x0 x1 x2 x8 0)
def cartridgelaw18_ListingNext.l1 : Nat → Int → Int → Bool → List (S28) → Int → Option (Bool)
  | 0, _, _, _, _, _ => none
  | k + 1, x0, x1, x2, x8, x10 => if x10 < x1 then (if x8.length < 1759218604441 then (cartridgelaw18_ListingNext.l1 k x0 x1 x2 (x8 ++ [(⟨(⟨#[98]⟩ : ByteArray), wrap64 (x10 + 1), 0, 0, wrap64 ((wrap64 (2 * x10)) + 2), false, ([] : List (S47))⟩ : S28)]) (wrap64 (x10 + 1))) else (none)) else ((listing_Newest.f k x8 (⟨#[97]⟩ : ByteArray)).bind fun bt239 => ((listing_Get.f k x8 (⟨#[97]⟩ : ByteArray) x0).bind fun bt250 => (if x1 ≥ x0 then (cartridgelaw18_ListingNext.j3 k x0 x1 x2 x8 bt239.2.2.2.2.2.2.2 bt250.2.2.2.2.2.2.2 (wrap64 ((wrap64 (2 * x1)) + 1))) else (cartridgelaw18_ListingNext.j3 k x0 x1 x2 x8 bt239.2.2.2.2.2.2.2 bt250.2.2.2.2.2.2.2 (wrap64 (2 * x0))))))
def cartridgelaw18_ListingNext.j3 : Nat → Int → Int → Bool → List (S28) → Bool → Bool → Int → Option (Bool)
  | 0, _, _, _, _, _, _, _ => none
  | k + 1, x0, x1, x2, x8, x12, x14, x15 => if x2 = true then (cartridgelaw18_ListingNext.j4 k x0 x1 x2 x8 x12 x14 x15 1) else (cartridgelaw18_ListingNext.j4 k x0 x1 x2 x8 x12 x14 x15 2)
def cartridgelaw18_ListingNext.j4 : Nat → Int → Int → Bool → List (S28) → Bool → Bool → Int → Int → Option (Bool)
  | 0, _, _, _, _, _, _, _, _ => none
  | k + 1, x0, x1, x2, x8, x12, x14, x15, x16 => (listing_Next.f k x8 (⟨#[97]⟩ : ByteArray)).bind fun t261 => (if t261 = (wrap64 (x0 + 1)) then ((listing_Next.f k x8 (⟨#[98]⟩ : ByteArray)).bind fun t262 => (if t262 = (wrap64 (x1 + 1)) then ((listing_Next.f k x8 (⟨#[99]⟩ : ByteArray)).bind fun t263 => (if t263 = 1 then ((listing_Serial.f k x8).bind fun t264 => (if t264 = x15 then (if (x12 == (!x2)) = true then (if (x14 == (!x2)) = true then ((listing_Names.f k x8).bind fun t265 => (some ((t265.length : Int) == x16))) else (some false)) else (some false)) else (some false))) else (some false))) else (some false))) else (some false))
end
def cartridgelaw18_ListingNext.f (k : Nat) (a0 : Int) (a1 : Int) (a2 : Bool) : Option (Bool) := (cartridgelaw18_alive.f k).bind fun t229 => (if t229 = true then (if a0 < 1 then (cartridgelaw18_ListingNext.j0 k a0 a1 a2 t229 true) else (if a0 > 20 then (cartridgelaw18_ListingNext.j0 k a0 a1 a2 t229 true) else (if a1 < 1 then (cartridgelaw18_ListingNext.j0 k a0 a1 a2 t229 true) else (cartridgelaw18_ListingNext.j0 k a0 a1 a2 t229 (decide (a1 > 20)))))) else (cartridgelaw18_ListingNext.j0 k a0 a1 a2 t229 true))
theorem cartridgelaw18_ListingNext.mono_l : ∀ k, (∀ y0 y1 y2 y3 y4, LeO (cartridgelaw18_ListingNext.j0 k y0 y1 y2 y3 y4) (cartridgelaw18_ListingNext.j0 (k + 1) y0 y1 y2 y3 y4)) ∧ (∀ y0 y1 y2 y3 y4, LeO (cartridgelaw18_ListingNext.l0 k y0 y1 y2 y3 y4) (cartridgelaw18_ListingNext.l0 (k + 1) y0 y1 y2 y3 y4)) ∧ (∀ y0 y1 y2 y3 y4, LeO (cartridgelaw18_ListingNext.l1 k y0 y1 y2 y3 y4) (cartridgelaw18_ListingNext.l1 (k + 1) y0 y1 y2 y3 y4)) ∧ (∀ y0 y1 y2 y3 y4 y5 y6, LeO (cartridgelaw18_ListingNext.j3 k y0 y1 y2 y3 y4 y5 y6) (cartridgelaw18_ListingNext.j3 (k + 1) y0 y1 y2 y3 y4 y5 y6)) ∧ (∀ y0 y1 y2 y3 y4 y5 y6 y7, LeO (cartridgelaw18_ListingNext.j4 k y0 y1 y2 y3 y4 y5 y6 y7) (cartridgelaw18_ListingNext.j4 (k + 1) y0 y1 y2 y3 y4 y5 y6 y7))
  | 0 => ⟨fun _ _ _ _ _ r h => by simp [cartridgelaw18_ListingNext.j0] at h, fun _ _ _ _ _ r h => by simp [cartridgelaw18_ListingNext.l0] at h, fun _ _ _ _ _ r h => by simp [cartridgelaw18_ListingNext.l1] at h, fun _ _ _ _ _ _ _ r h => by simp [cartridgelaw18_ListingNext.j3] at h, fun _ _ _ _ _ _ _ _ r h => by simp [cartridgelaw18_ListingNext.j4] at h⟩
  | k + 1 => by
    obtain ⟨ih0, ih1, ih2, ih3, ih4⟩ := cartridgelaw18_ListingNext.mono_l k
    refine ⟨?_, ?_, ?_, ?_, ?_⟩
    · intro y0 y1 y2 y3 y4
      unfold cartridgelaw18_ListingNext.j0
      repeat' first
      | (with_reducible exact ih0 _ _ _ _ _)
      | (with_reducible exact ih1 _ _ _ _ _)
      | (with_reducible exact ih2 _ _ _ _ _)
      | (with_reducible exact ih3 _ _ _ _ _ _ _)
      | (with_reducible exact ih4 _ _ _ _ _ _ _ _)
      | (with_reducible exact cartridgelaw18_alive.mono _)
      | (with_reducible exact listing_Get.mono _ _ _ _)
      | (with_reducible exact listing_Names.mono _ _)
      | (with_reducible exact listing_Newest.mono _ _ _)
      | (with_reducible exact listing_Next.mono _ _ _)
      | (with_reducible exact listing_Serial.mono _ _)
      | (with_reducible exact LeO.refl _)
      | (with_reducible exact LeO.none _)
      | (with_reducible refine LeO.ite ?_ ?_)
      | (with_reducible refine LeO.bind ?_ (fun _ => ?_))
      | exact ih0 _ _ _ _ _
      | exact ih1 _ _ _ _ _
      | exact ih2 _ _ _ _ _
      | exact ih3 _ _ _ _ _ _ _
      | exact ih4 _ _ _ _ _ _ _ _
      | exact cartridgelaw18_alive.mono _
      | exact listing_Get.mono _ _ _ _
      | exact listing_Names.mono _ _
      | exact listing_Newest.mono _ _ _
      | exact listing_Next.mono _ _ _
      | exact listing_Serial.mono _ _
      | exact LeO.none _
      | refine LeO.ite ?_ ?_
      | refine LeO.bind ?_ (fun _ => ?_)
    · intro y0 y1 y2 y3 y4
      unfold cartridgelaw18_ListingNext.l0
      repeat' first
      | (with_reducible exact ih0 _ _ _ _ _)
      | (with_reducible exact ih1 _ _ _ _ _)
      | (with_reducible exact ih2 _ _ _ _ _)
      | (with_reducible exact ih3 _ _ _ _ _ _ _)
      | (with_reducible exact ih4 _ _ _ _ _ _ _ _)
      | (with_reducible exact cartridgelaw18_alive.mono _)
      | (with_reducible exact listing_Get.mono _ _ _ _)
      | (with_reducible exact listing_Names.mono _ _)
      | (with_reducible exact listing_Newest.mono _ _ _)
      | (with_reducible exact listing_Next.mono _ _ _)
      | (with_reducible exact listing_Serial.mono _ _)
      | (with_reducible exact LeO.refl _)
      | (with_reducible exact LeO.none _)
      | (with_reducible refine LeO.ite ?_ ?_)
      | (with_reducible refine LeO.bind ?_ (fun _ => ?_))
      | exact ih0 _ _ _ _ _
      | exact ih1 _ _ _ _ _
      | exact ih2 _ _ _ _ _
      | exact ih3 _ _ _ _ _ _ _
      | exact ih4 _ _ _ _ _ _ _ _
      | exact cartridgelaw18_alive.mono _
      | exact listing_Get.mono _ _ _ _
      | exact listing_Names.mono _ _
      | exact listing_Newest.mono _ _ _
      | exact listing_Next.mono _ _ _
      | exact listing_Serial.mono _ _
      | exact LeO.none _
      | refine LeO.ite ?_ ?_
      | refine LeO.bind ?_ (fun _ => ?_)
    · intro y0 y1 y2 y3 y4
      unfold cartridgelaw18_ListingNext.l1
      repeat' first
      | (with_reducible exact ih0 _ _ _ _ _)
      | (with_reducible exact ih1 _ _ _ _ _)
      | (with_reducible exact ih2 _ _ _ _ _)
      | (with_reducible exact ih3 _ _ _ _ _ _ _)
      | (with_reducible exact ih4 _ _ _ _ _ _ _ _)
      | (with_reducible exact cartridgelaw18_alive.mono _)
      | (with_reducible exact listing_Get.mono _ _ _ _)
      | (with_reducible exact listing_Names.mono _ _)
      | (with_reducible exact listing_Newest.mono _ _ _)
      | (with_reducible exact listing_Next.mono _ _ _)
      | (with_reducible exact listing_Serial.mono _ _)
      | (with_reducible exact LeO.refl _)
      | (with_reducible exact LeO.none _)
      | (with_reducible refine LeO.ite ?_ ?_)
      | (with_reducible refine LeO.bind ?_ (fun _ => ?_))
      | exact ih0 _ _ _ _ _
      | exact ih1 _ _ _ _ _
      | exact ih2 _ _ _ _ _
      | exact ih3 _ _ _ _ _ _ _
      | exact ih4 _ _ _ _ _ _ _ _
      | exact cartridgelaw18_alive.mono _
      | exact listing_Get.mono _ _ _ _
      | exact listing_Names.mono _ _
      | exact listing_Newest.mono _ _ _
      | exact listing_Next.mono _ _ _
      | exact listing_Serial.mono _ _
      | exact LeO.none _
      | refine LeO.ite ?_ ?_
      | refine LeO.bind ?_ (fun _ => ?_)
    · intro y0 y1 y2 y3 y4 y5 y6
      unfold cartridgelaw18_ListingNext.j3
      repeat' first
      | (with_reducible exact ih0 _ _ _ _ _)
      | (with_reducible exact ih1 _ _ _ _ _)
      | (with_reducible exact ih2 _ _ _ _ _)
      | (with_reducible exact ih3 _ _ _ _ _ _ _)
      | (with_reducible exact ih4 _ _ _ _ _ _ _ _)
      | (with_reducible exact cartridgelaw18_alive.mono _)
      | (with_reducible exact listing_Get.mono _ _ _ _)
      | (with_reducible exact listing_Names.mono _ _)
      | (with_reducible exact listing_Newest.mono _ _ _)
      | (with_reducible exact listing_Next.mono _ _ _)
      | (with_reducible exact listing_Serial.mono _ _)
      | (with_reducible exact LeO.refl _)
      | (with_reducible exact LeO.none _)
      | (with_reducible refine LeO.ite ?_ ?_)
      | (with_reducible refine LeO.bind ?_ (fun _ => ?_))
      | exact ih0 _ _ _ _ _
      | exact ih1 _ _ _ _ _
      | exact ih2 _ _ _ _ _
      | exact ih3 _ _ _ _ _ _ _
      | exact ih4 _ _ _ _ _ _ _ _
      | exact cartridgelaw18_alive.mono _
      | exact listing_Get.mono _ _ _ _
      | exact listing_Names.mono _ _
      | exact listing_Newest.mono _ _ _
      | exact listing_Next.mono _ _ _
      | exact listing_Serial.mono _ _
      | exact LeO.none _
      | refine LeO.ite ?_ ?_
      | refine LeO.bind ?_ (fun _ => ?_)
    · intro y0 y1 y2 y3 y4 y5 y6 y7
      unfold cartridgelaw18_ListingNext.j4
      repeat' first
      | (with_reducible exact ih0 _ _ _ _ _)
      | (with_reducible exact ih1 _ _ _ _ _)
      | (with_reducible exact ih2 _ _ _ _ _)
      | (with_reducible exact ih3 _ _ _ _ _ _ _)
      | (with_reducible exact ih4 _ _ _ _ _ _ _ _)
      | (with_reducible exact cartridgelaw18_alive.mono _)
      | (with_reducible exact listing_Get.mono _ _ _ _)
      | (with_reducible exact listing_Names.mono _ _)
      | (with_reducible exact listing_Newest.mono _ _ _)
      | (with_reducible exact listing_Next.mono _ _ _)
      | (with_reducible exact listing_Serial.mono _ _)
      | (with_reducible exact LeO.refl _)
      | (with_reducible exact LeO.none _)
      | (with_reducible refine LeO.ite ?_ ?_)
      | (with_reducible refine LeO.bind ?_ (fun _ => ?_))
      | exact ih0 _ _ _ _ _
      | exact ih1 _ _ _ _ _
      | exact ih2 _ _ _ _ _
      | exact ih3 _ _ _ _ _ _ _
      | exact ih4 _ _ _ _ _ _ _ _
      | exact cartridgelaw18_alive.mono _
      | exact listing_Get.mono _ _ _ _
      | exact listing_Names.mono _ _
      | exact listing_Newest.mono _ _ _
      | exact listing_Next.mono _ _ _
      | exact listing_Serial.mono _ _
      | exact LeO.none _
      | refine LeO.ite ?_ ?_
      | refine LeO.bind ?_ (fun _ => ?_)
theorem cartridgelaw18_ListingNext.mono : ∀ a0 a1 a2 k, LeO (cartridgelaw18_ListingNext.f k a0 a1 a2) (cartridgelaw18_ListingNext.f (k + 1) a0 a1 a2) := by
  intro a0 a1 a2 k
  obtain ⟨ih0, ih1, ih2, ih3, ih4⟩ := cartridgelaw18_ListingNext.mono_l k
  unfold cartridgelaw18_ListingNext.f
  repeat' first
      | (with_reducible exact ih0 _ _ _ _ _)
      | (with_reducible exact ih1 _ _ _ _ _)
      | (with_reducible exact ih2 _ _ _ _ _)
      | (with_reducible exact ih3 _ _ _ _ _ _ _)
      | (with_reducible exact ih4 _ _ _ _ _ _ _ _)
      | (with_reducible exact cartridgelaw18_alive.mono _)
      | (with_reducible exact listing_Get.mono _ _ _ _)
      | (with_reducible exact listing_Names.mono _ _)
      | (with_reducible exact listing_Newest.mono _ _ _)
      | (with_reducible exact listing_Next.mono _ _ _)
      | (with_reducible exact listing_Serial.mono _ _)
      | (with_reducible exact LeO.refl _)
      | (with_reducible exact LeO.none _)
      | (with_reducible refine LeO.ite ?_ ?_)
      | (with_reducible refine LeO.bind ?_ (fun _ => ?_))
      | exact ih0 _ _ _ _ _
      | exact ih1 _ _ _ _ _
      | exact ih2 _ _ _ _ _
      | exact ih3 _ _ _ _ _ _ _
      | exact ih4 _ _ _ _ _ _ _ _
      | exact cartridgelaw18_alive.mono _
      | exact listing_Get.mono _ _ _ _
      | exact listing_Names.mono _ _
      | exact listing_Newest.mono _ _ _
      | exact listing_Next.mono _ _ _
      | exact listing_Serial.mono _ _
      | exact LeO.none _
      | refine LeO.ite ?_ ?_
      | refine LeO.bind ?_ (fun _ => ?_)
set_option maxHeartbeats 8000000 in
set_option maxRecDepth 100000 in
theorem cartridgelaw18_ListingNext.calls (k : Nat) (a0 : Int) (a1 : Int) (a2 : Bool) (r : Bool) (w : World) (h : cartridgelaw18_ListingNext.f k a0 a1 a2 = some r) :
    Calls Try.prog 5 #[.int .i64 a0, .int .i64 a1, .bool a2] w fun e w' => e = .returned (.bool r) ∧ Below w.heap.size w w' := by
  have hu28 := Try.underlying28
  have HB := Aside0.mk (Below.refl w.heap.size w)
  have H : ((cartridgelaw18_alive.f k).bind fun t229 => (if t229 = true then (if a0 < 1 then (cartridgelaw18_ListingNext.j0 k a0 a1 a2 t229 true) else (if a0 > 20 then (cartridgelaw18_ListingNext.j0 k a0 a1 a2 t229 true) else (if a1 < 1 then (cartridgelaw18_ListingNext.j0 k a0 a1 a2 t229 true) else (cartridgelaw18_ListingNext.j0 k a0 a1 a2 t229 (decide (a1 > 20)))))) else (cartridgelaw18_ListingNext.j0 k a0 a1 a2 t229 true))) = some r := h
  clear h
  replace H := Option.bind_eq_some_iff.mp H
  obtain ⟨t229, A40, H⟩ := H
  replace H : (if t229 = true then (if a0 < 1 then (cartridgelaw18_ListingNext.j0 k a0 a1 a2 t229 true) else (if a0 > 20 then (cartridgelaw18_ListingNext.j0 k a0 a1 a2 t229 true) else (if a1 < 1 then (cartridgelaw18_ListingNext.j0 k a0 a1 a2 t229 true) else (cartridgelaw18_ListingNext.j0 k a0 a1 a2 t229 (decide (a1 > 20)))))) else (cartridgelaw18_ListingNext.j0 k a0 a1 a2 t229 true)) = some r := H
  have A4 := Aside0.mk A40
  clear A40
  have HC5 := Aside0.mk H
  clear H
  go_enter Try.func5, Try.ntmps5
  go_upto_region 2 with (first | ((with_reducible refine gate_callee (f := 6) rfl ?_); refine goesL_ (some 17) rfl rfl Try.func6 (by kernel_rfl) rfl #[] rfl (by (try simp only [List.map_toArray, List.map_cons, List.map_nil]); first | done | rfl | (simp only [List.length_drop, List.length_take]; rfl)) ?_; (with_reducible refine (cartridgelaw18_alive.calls k  t229 _ A4.out).mono ?_); rintro e w6 ⟨rfl, hb⟩; refine ⟨_, rfl, ?_⟩; have n0_ := Aside0.mk (below_step (by repeat (first | (with_reducible first | exact HB.out | apply below_alloc | apply pw_below_drewN | apply below_drew1) | exact HB.out)) hb); clear HB; have HB := n0_; clear n0_; (try clear hb); (try clear hb2); (try clear hk); (try clear hi)))
  (try simp only [Act.put, List.setIfInBounds_toArray, List.set_cons_zero, List.set_cons_succ])
  go_cut [35] (fun v35 wc => ∃ (kq : Nat) (x35_4 : Bool), v35 = .bool x35_4 ∧ Aside0 (cartridgelaw18_ListingNext.j0 kq a0 a1 a2 t229 x35_4 = some r) ∧ Aside0 (kq ≤ k) ∧ Aside0 (Below w.heap.size w wc))
  case first =>
    have H := HC5.out
    clear HC5
    by_cases c7 : t229 = true
    · subst c7
      have H1 : (if a0 < 1 then (cartridgelaw18_ListingNext.j0 k a0 a1 a2 true true) else (if a0 > 20 then (cartridgelaw18_ListingNext.j0 k a0 a1 a2 true true) else (if a1 < 1 then (cartridgelaw18_ListingNext.j0 k a0 a1 a2 true true) else (cartridgelaw18_ListingNext.j0 k a0 a1 a2 true (decide (a1 > 20)))))) = some r := by rw [if_pos rfl] at H; exact H
      clear H
      have H := H1
      clear H1
      by_cases c8 : a0 < 1
      · rw [if_pos c8] at H
        have c8b0 : decide (a0 < 1) = true := decide_eq_true c8
        clear c8
        (first | rw [c8b0] | (simp only [i64_w, i32_w]; rw [c8b0]) | skip)
        have H' := Aside0.mk H
        clear H
        go_wp2
        go_meet
        case rel => exact ⟨_, (true), (by first | rfl | (simp; done) | (simp [*]; done)), H', ⟨by first | omega | exact Nat.le_refl _⟩, ⟨by repeat (first | (with_reducible first | exact HB.out | apply below_alloc | apply pw_below_drewN | apply below_drew1) | exact HB.out)⟩⟩
      · rw [if_neg c8] at H
        have c8b0 : decide (a0 < 1) = false := decide_eq_false c8
        clear c8
        (first | rw [c8b0] | (simp only [i64_w, i32_w]; rw [c8b0]) | skip)
        by_cases c9 : a0 > 20
        · rw [if_pos c9] at H
          have c9b0 : decide (20 < a0) = true := decide_eq_true c9
          clear c9
          have H' := Aside0.mk H
          clear H
          go_wp2
          go_meet
          case rel => exact ⟨_, (true), (by first | rfl | (simp; done) | (simp [*]; done)), H', ⟨by first | omega | exact Nat.le_refl _⟩, ⟨by repeat (first | (with_reducible first | exact HB.out | apply below_alloc | apply pw_below_drewN | apply below_drew1) | exact HB.out)⟩⟩
        · rw [if_neg c9] at H
          have c9b0 : decide (20 < a0) = false := decide_eq_false c9
          clear c9
          by_cases c10 : a1 < 1
          · rw [if_pos c10] at H
            have c10b0 : decide (a1 < 1) = true := decide_eq_true c10
            clear c10
            have H' := Aside0.mk H
            clear H
            go_wp2
            go_meet
            case rel => exact ⟨_, (true), (by first | rfl | (simp; done) | (simp [*]; done)), H', ⟨by first | omega | exact Nat.le_refl _⟩, ⟨by repeat (first | (with_reducible first | exact HB.out | apply below_alloc | apply pw_below_drewN | apply below_drew1) | exact HB.out)⟩⟩
          · rw [if_neg c10] at H
            have c10b0 : decide (a1 < 1) = false := decide_eq_false c10
            clear c10
            have H' := Aside0.mk H
            clear H
            go_wp2
            go_meet
            case rel => exact ⟨_, (decide (a1 > 20)), (by first | rfl | (simp; done) | (simp [*]; done)), H', ⟨by first | omega | exact Nat.le_refl _⟩, ⟨by repeat (first | (with_reducible first | exact HB.out | apply below_alloc | apply pw_below_drewN | apply below_drew1) | exact HB.out)⟩⟩
    · replace c7 := Bool.eq_false_iff.mpr c7
      subst c7
      have H1 : (cartridgelaw18_ListingNext.j0 k a0 a1 a2 false true) = some r := by rw [if_neg (show ¬ (false = true) by decide)] at H; exact H
      clear H
      have H := H1
      clear H1
      have H' := Aside0.mk H
      clear H
      go_wp2
      go_meet
      case rel => exact ⟨_, (true), (by first | rfl | (simp; done) | (simp [*]; done)), H', ⟨by first | omega | exact Nat.le_refl _⟩, ⟨by repeat (first | (with_reducible first | exact HB.out | apply below_alloc | apply pw_below_drewN | apply below_drew1) | exact HB.out)⟩⟩
  case rest =>
    clear HC5
    try clear c1
    try clear p2
    try clear c5
    try clear c6
    try clear c7
    try clear c8
    try clear c8b0
    try clear c9
    try clear c9b0
    try clear c10
    try clear c10b0
    obtain ⟨kq, x35_4, rfl, HA, HJ4, HB⟩ := hcut
    cases kq with
    | zero => exact absurd HA.out (by simp [cartridgelaw18_ListingNext.j0])
    | succ kj4 =>
      have H := HA.out
      clear HA
      simp only [cartridgelaw18_ListingNext.j0] at H
      by_cases c11 : x35_4 = true
      · subst c11
        have H1 : (some t229) = some r := by rw [if_pos rfl] at H; exact H
        clear H
        have H := H1
        clear H1
        obtain rfl := Option.some.inj H
        go_wp2
        go_ret
        exact ⟨by first | rfl | (simp [errW_none, errW_some] <;> rfl) | (simp [*, errW_none, errW_some] <;> rfl), by repeat (first | (with_reducible first | exact HB.out | apply below_alloc | apply pw_below_drewN | apply below_drew1) | exact HB.out)⟩
      · replace c11 := Bool.eq_false_iff.mpr c11
        subst c11
        have H1 : (cartridgelaw18_ListingNext.l0 kj4 a0 a1 a2 ([] : List (S28)) 0) = some r := by rw [if_neg (show ¬ (false = true) by decide)] at H; exact H
        clear H
        have H := H1
        clear H1
        have H' := Aside0.mk H
        clear H
        go_wp2
        go_loopg [8, 9] kj4 (fun kq v8 v9 w' => ∃ (x8_2 : List (S28)) (x9_2 : Int), v9 = .int .i64 x9_2 ∧ Aside0 (cartridgelaw18_ListingNext.l0 kq a0 a1 a2 x8_2 x9_2 = some r) ∧ Aside0 (kq ≤ kj4) ∧ Aside0 (Kd.S k28 28 w' w.heap.size (fun _ => True) v8 x8_2) ∧ Aside0 (Below w.heap.size w w'))
        case atStart => exact ⟨(([] : List (S28))), (0), (by first | rfl | (simp; done) | (simp [*]; done)), H', ⟨Nat.le_refl _⟩, ⟨by first | exact Kd.S_nil _ _ _ _ _ | exact Kd.N_nil _ _ _ _ _ | exact Kd.V_nil _ _ _ _ _ | exact Kd.Q_nil _ _ _ _ _ | exact Kd.R_nil _ _ _ _ _⟩, ⟨by repeat (first | (with_reducible first | exact HB.out | apply below_alloc | apply pw_below_drewN | apply below_drew1) | exact HB.out)⟩⟩
        case round =>
          clear H'
          try clear c1
          try clear p2
          try clear c5
          try clear c6
          try clear c7
          try clear c8
          try clear c8b0
          try clear c9
          try clear c9b0
          try clear c10
          try clear c10b0
          try clear c11
          try clear p2
          obtain ⟨x8_2, x9_2, rfl, HA, HK2, HO_8, HB⟩ := hrel
          cases gk with
          | zero => exact absurd HA.out (by simp [cartridgelaw18_ListingNext.l0])
          | succ k2 =>
            have H := HA.out
            clear HA
            simp only [cartridgelaw18_ListingNext.l0] at H
            by_cases c12 : x9_2 < a0
            · rw [if_pos c12] at H
              have c12b0 : decide (x9_2 < a0) = true := decide_eq_true c12
              clear c12
              by_cases c13 : a2 = true
              · subst c13
                have H1 : (if x8_2.length < 1759218604441 then (cartridgelaw18_ListingNext.l0 k2 a0 a1 true (x8_2 ++ [(⟨(⟨#[97]⟩ : ByteArray), wrap64 (x9_2 + 1), 0, 0, wrap64 ((wrap64 (2 * x9_2)) + 1), (x9_2 == (wrap64 (a0 - 1))), ([] : List (S47))⟩ : S28)]) (wrap64 (x9_2 + 1))) else (none)) = some r := by rw [if_pos rfl] at H; exact H
                clear H
                have H := H1
                clear H1
                by_cases c14 : x8_2.length < 1759218604441
                · rw [if_pos c14] at H
                  have LMc14 := Aside0.mk c14
                  clear c14
                  obtain ⟨y230, hy230⟩ : ∃ y_ : List (S28), y_ = (x8_2 ++ [(⟨(⟨#[97]⟩ : ByteArray), wrap64 (x9_2 + 1), 0, 0, wrap64 ((wrap64 (2 * x9_2)) + 1), (x9_2 == (wrap64 (a0 - 1))), ([] : List (S47))⟩ : S28)]) := ⟨_, rfl⟩
                  replace H : (cartridgelaw18_ListingNext.l0 k2 a0 a1 true y230 (wrap64 (x9_2 + 1))) = some r := by first | (rw [hy230]; with_reducible exact H) | (have H2_ := (Option.bind_some _ _).symm.trans H; rw [hy230]; with_reducible exact H2_) | (have H2_ := (Option.bind_some _ _).symm.trans H; with_reducible exact H2_) | with_reducible exact H | (rw [hy230]; exact H) | exact H
                  have Ny230 := Aside0.mk hy230
                  clear hy230
                  have H' := Aside0.mk H
                  clear H
                  go_wp2_with (first | ((with_reducible refine gate_builtin (b := .append) (xs := #[.tmp 42, .tmp 56]) rfl ?_); (try (refine gate_guard (by rfl) ?_; dsimp only)); at_builtin; refine Kd.S_append k28 (w0 := w) w.heap.size rfl (.tmp 42) (.tmp 56) 22 28 (.agg #[(.string ⟨#[]⟩), (.int .i64 0), (.int .i64 0), (.int .i64 0), (.int .i64 0), (.bool false), (.slice none 0 0)]) 80 rfl Try.underlying22 info28 rfl (by decide) (by omega) u8 x8_2 (⟨(⟨#[97]⟩ : ByteArray), wrap64 (x9_2 + 1), 0, 0, wrap64 ((wrap64 (2 * x9_2)) + 1), (x9_2 == (wrap64 (a0 - 1))), ([] : List (S47))⟩ : S28) [.string (⟨#[97]⟩ : ByteArray), .int .i64 (wrap64 (x9_2 + 1)), .int .i64 0, .int .i64 0, .int .i64 (wrap64 ((wrap64 (2 * x9_2)) + 1)), .bool (x9_2 == (wrap64 (a0 - 1))), .slice none 0 0] (fun _ => True) (fun _ => False) rfl rfl ?aP (fun k_ hk_ => hk_.elim) ?aF ?aO ?aB ?aS ?aL ?_; (case aP => exact k28_mkM _ _ _ (⟨(⟨#[97]⟩ : ByteArray), wrap64 (x9_2 + 1), 0, 0, wrap64 ((wrap64 (2 * x9_2)) + 1), (x9_2 == (wrap64 (a0 - 1))), ([] : List (S47))⟩ : S28) (Kd.R_nil _ _ _ _ _)); (case aB => exact (by repeat (first | (with_reducible first | exact HB.out | apply below_alloc | apply pw_below_drewN | apply below_drew1) | exact HB.out))); (case aF => exact (fun _ _ => trivial)); (case aO => exact (by (with_reducible repeat (first | apply Kd.S_alloc | apply Kd.S_drewN | apply Kd.S_drew)); exact Kd.S_mono HO_8.out (fun k_ hk => ⟨trivial, fun e_ => e_⟩))); (case aS => exact (below_size (by repeat (first | (with_reducible first | exact HB.out | apply below_alloc | apply pw_below_drewN | apply below_drew1) | exact HB.out)))); (case aL => have := LMc14.out; omega); intro v231 w15 ho hb hg hat; rw [← Ny230.out] at ho; have n0_ := Aside0.mk (hb); have n1_ := Aside0.mk (ho); clear HB; clear HO_8; have HB := n0_; have HO232 := n1_; clear n0_ n1_; clear ho hb hg hat))
                  go_roundg k2
                  case measure => have := HJ4.out; have := HK2.out; omega
                  case rel => exact ⟨(y230), (wrap64 (x9_2 + 1)), (by first | rfl | (simp; done) | (simp [*]; done)), H', ⟨by have := HJ4.out; have := HK2.out; omega⟩, ⟨by (with_reducible repeat (first | apply Kd.S_alloc | apply Kd.S_drewN | apply Kd.S_drew)); exact HO232.out⟩, ⟨by repeat (first | (with_reducible first | exact HB.out | apply below_alloc | apply pw_below_drewN | apply below_drew1) | exact HB.out)⟩⟩
                · rw [if_neg c14] at H
                  exact absurd H (by simp)
              · replace c13 := Bool.eq_false_iff.mpr c13
                subst c13
                have H1 : (if x8_2.length < 1759218604441 then (cartridgelaw18_ListingNext.l0 k2 a0 a1 false (x8_2 ++ [(⟨(⟨#[97]⟩ : ByteArray), wrap64 (x9_2 + 1), 0, 0, wrap64 ((wrap64 (2 * x9_2)) + 1), false, ([] : List (S47))⟩ : S28)]) (wrap64 (x9_2 + 1))) else (none)) = some r := by rw [if_neg (show ¬ (false = true) by decide)] at H; exact H
                clear H
                have H := H1
                clear H1
                by_cases c16 : x8_2.length < 1759218604441
                · rw [if_pos c16] at H
                  have LMc16 := Aside0.mk c16
                  clear c16
                  obtain ⟨y233, hy233⟩ : ∃ y_ : List (S28), y_ = (x8_2 ++ [(⟨(⟨#[97]⟩ : ByteArray), wrap64 (x9_2 + 1), 0, 0, wrap64 ((wrap64 (2 * x9_2)) + 1), false, ([] : List (S47))⟩ : S28)]) := ⟨_, rfl⟩
                  replace H : (cartridgelaw18_ListingNext.l0 k2 a0 a1 false y233 (wrap64 (x9_2 + 1))) = some r := by first | (rw [hy233]; with_reducible exact H) | (have H2_ := (Option.bind_some _ _).symm.trans H; rw [hy233]; with_reducible exact H2_) | (have H2_ := (Option.bind_some _ _).symm.trans H; with_reducible exact H2_) | with_reducible exact H | (rw [hy233]; exact H) | exact H
                  have Ny233 := Aside0.mk hy233
                  clear hy233
                  have H' := Aside0.mk H
                  clear H
                  go_wp2_with (first | ((with_reducible refine gate_builtin (b := .append) (xs := #[.tmp 42, .tmp 56]) rfl ?_); (try (refine gate_guard (by rfl) ?_; dsimp only)); at_builtin; refine Kd.S_append k28 (w0 := w) w.heap.size rfl (.tmp 42) (.tmp 56) 22 28 (.agg #[(.string ⟨#[]⟩), (.int .i64 0), (.int .i64 0), (.int .i64 0), (.int .i64 0), (.bool false), (.slice none 0 0)]) 80 rfl Try.underlying22 info28 rfl (by decide) (by omega) u8 x8_2 (⟨(⟨#[97]⟩ : ByteArray), wrap64 (x9_2 + 1), 0, 0, wrap64 ((wrap64 (2 * x9_2)) + 1), false, ([] : List (S47))⟩ : S28) [.string (⟨#[97]⟩ : ByteArray), .int .i64 (wrap64 (x9_2 + 1)), .int .i64 0, .int .i64 0, .int .i64 (wrap64 ((wrap64 (2 * x9_2)) + 1)), .bool false, .slice none 0 0] (fun _ => True) (fun _ => False) rfl rfl ?aP (fun k_ hk_ => hk_.elim) ?aF ?aO ?aB ?aS ?aL ?_; (case aP => exact k28_mkM _ _ _ (⟨(⟨#[97]⟩ : ByteArray), wrap64 (x9_2 + 1), 0, 0, wrap64 ((wrap64 (2 * x9_2)) + 1), false, ([] : List (S47))⟩ : S28) (Kd.R_nil _ _ _ _ _)); (case aB => exact (by repeat (first | (with_reducible first | exact HB.out | apply below_alloc | apply pw_below_drewN | apply below_drew1) | exact HB.out))); (case aF => exact (fun _ _ => trivial)); (case aO => exact (by (with_reducible repeat (first | apply Kd.S_alloc | apply Kd.S_drewN | apply Kd.S_drew)); exact Kd.S_mono HO_8.out (fun k_ hk => ⟨trivial, fun e_ => e_⟩))); (case aS => exact (below_size (by repeat (first | (with_reducible first | exact HB.out | apply below_alloc | apply pw_below_drewN | apply below_drew1) | exact HB.out)))); (case aL => have := LMc16.out; omega); intro v234 w17 ho hb hg hat; rw [← Ny233.out] at ho; have n0_ := Aside0.mk (hb); have n1_ := Aside0.mk (ho); clear HB; clear HO_8; have HB := n0_; have HO235 := n1_; clear n0_ n1_; clear ho hb hg hat))
                  go_roundg k2
                  case measure => have := HJ4.out; have := HK2.out; omega
                  case rel => exact ⟨(y233), (wrap64 (x9_2 + 1)), (by first | rfl | (simp; done) | (simp [*]; done)), H', ⟨by have := HJ4.out; have := HK2.out; omega⟩, ⟨by (with_reducible repeat (first | apply Kd.S_alloc | apply Kd.S_drewN | apply Kd.S_drew)); exact HO235.out⟩, ⟨by repeat (first | (with_reducible first | exact HB.out | apply below_alloc | apply pw_below_drewN | apply below_drew1) | exact HB.out)⟩⟩
                · rw [if_neg c16] at H
                  exact absurd H (by simp)
            · rw [if_neg c12] at H
              have c12b0 : decide (x9_2 < a0) = false := decide_eq_false c12
              clear c12
              have H' := Aside0.mk H
              clear H
              go_wp2
              go_loopg [8, 10] k2 (fun kq v8 v10 w' => ∃ (x8_3 : List (S28)) (x10_3 : Int), v10 = .int .i64 x10_3 ∧ Aside0 (cartridgelaw18_ListingNext.l1 kq a0 a1 a2 x8_3 x10_3 = some r) ∧ Aside0 (kq ≤ k2) ∧ Aside0 (Kd.S k28 28 w' w.heap.size (fun _ => True) v8 x8_3) ∧ Aside0 (Below w.heap.size w w'))
              case atStart => exact ⟨(x8_2), (0), (by first | rfl | (simp; done) | (simp [*]; done)), H', ⟨Nat.le_refl _⟩, ⟨by (with_reducible repeat (first | apply Kd.S_alloc | apply Kd.S_drewN | apply Kd.S_drew)); exact HO_8.out⟩, ⟨by repeat (first | (with_reducible first | exact HB.out | apply below_alloc | apply pw_below_drewN | apply below_drew1) | exact HB.out)⟩⟩
              case round =>
                clear H'
                try clear c1
                try clear p2
                try clear c5
                try clear c6
                try clear p6
                try clear c7
                try clear c8
                try clear c8b0
                try clear c9
                try clear c9b0
                try clear c10
                try clear c10b0
                try clear c11
                try clear c12
                try clear c12b0
                try clear c13
                try clear c14
                try clear c16
                try clear p2
                obtain ⟨x8_3, x10_3, rfl, HA, HK3, HO_8, HB⟩ := hrel
                cases gk with
                | zero => exact absurd HA.out (by simp [cartridgelaw18_ListingNext.l1])
                | succ k3 =>
                  have H := HA.out
                  clear HA
                  simp only [cartridgelaw18_ListingNext.l1] at H
                  by_cases c18 : x10_3 < a1
                  · rw [if_pos c18] at H
                    have c18b0 : decide (x10_3 < a1) = true := decide_eq_true c18
                    clear c18
                    by_cases c19 : x8_3.length < 1759218604441
                    · rw [if_pos c19] at H
                      have LMc19 := Aside0.mk c19
                      clear c19
                      obtain ⟨y236, hy236⟩ : ∃ y_ : List (S28), y_ = (x8_3 ++ [(⟨(⟨#[98]⟩ : ByteArray), wrap64 (x10_3 + 1), 0, 0, wrap64 ((wrap64 (2 * x10_3)) + 2), false, ([] : List (S47))⟩ : S28)]) := ⟨_, rfl⟩
                      replace H : (cartridgelaw18_ListingNext.l1 k3 a0 a1 a2 y236 (wrap64 (x10_3 + 1))) = some r := by first | (rw [hy236]; with_reducible exact H) | (have H2_ := (Option.bind_some _ _).symm.trans H; rw [hy236]; with_reducible exact H2_) | (have H2_ := (Option.bind_some _ _).symm.trans H; with_reducible exact H2_) | with_reducible exact H | (rw [hy236]; exact H) | exact H
                      have Ny236 := Aside0.mk hy236
                      clear hy236
                      have H' := Aside0.mk H
                      clear H
                      go_wp2_with (first | ((with_reducible refine gate_builtin (b := .append) (xs := #[.tmp 63, .tmp 70]) rfl ?_); (try (refine gate_guard (by rfl) ?_; dsimp only)); at_builtin; refine Kd.S_append k28 (w0 := w) w.heap.size rfl (.tmp 63) (.tmp 70) 22 28 (.agg #[(.string ⟨#[]⟩), (.int .i64 0), (.int .i64 0), (.int .i64 0), (.int .i64 0), (.bool false), (.slice none 0 0)]) 80 rfl Try.underlying22 info28 rfl (by decide) (by omega) u8 x8_3 (⟨(⟨#[98]⟩ : ByteArray), wrap64 (x10_3 + 1), 0, 0, wrap64 ((wrap64 (2 * x10_3)) + 2), false, ([] : List (S47))⟩ : S28) [.string (⟨#[98]⟩ : ByteArray), .int .i64 (wrap64 (x10_3 + 1)), .int .i64 0, .int .i64 0, .int .i64 (wrap64 ((wrap64 (2 * x10_3)) + 2)), .bool false, .slice none 0 0] (fun _ => True) (fun _ => False) rfl rfl ?aP (fun k_ hk_ => hk_.elim) ?aF ?aO ?aB ?aS ?aL ?_; (case aP => exact k28_mkM _ _ _ (⟨(⟨#[98]⟩ : ByteArray), wrap64 (x10_3 + 1), 0, 0, wrap64 ((wrap64 (2 * x10_3)) + 2), false, ([] : List (S47))⟩ : S28) (Kd.R_nil _ _ _ _ _)); (case aB => exact (by repeat (first | (with_reducible first | exact HB.out | apply below_alloc | apply pw_below_drewN | apply below_drew1) | exact HB.out))); (case aF => exact (fun _ _ => trivial)); (case aO => exact (by (with_reducible repeat (first | apply Kd.S_alloc | apply Kd.S_drewN | apply Kd.S_drew)); exact Kd.S_mono HO_8.out (fun k_ hk => ⟨trivial, fun e_ => e_⟩))); (case aS => exact (below_size (by repeat (first | (with_reducible first | exact HB.out | apply below_alloc | apply pw_below_drewN | apply below_drew1) | exact HB.out)))); (case aL => have := LMc19.out; omega); intro v237 w20 ho hb hg hat; rw [← Ny236.out] at ho; have n0_ := Aside0.mk (hb); have n1_ := Aside0.mk (ho); clear HB; clear HO_8; have HB := n0_; have HO238 := n1_; clear n0_ n1_; clear ho hb hg hat))
                      go_roundg k3
                      case measure => have := HJ4.out; have := HK2.out; have := HK3.out; omega
                      case rel => exact ⟨(y236), (wrap64 (x10_3 + 1)), (by first | rfl | (simp; done) | (simp [*]; done)), H', ⟨by have := HJ4.out; have := HK2.out; have := HK3.out; omega⟩, ⟨by (with_reducible repeat (first | apply Kd.S_alloc | apply Kd.S_drewN | apply Kd.S_drew)); exact HO238.out⟩, ⟨by repeat (first | (with_reducible first | exact HB.out | apply below_alloc | apply pw_below_drewN | apply below_drew1) | exact HB.out)⟩⟩
                    · rw [if_neg c19] at H
                      exact absurd H (by simp)
                  · rw [if_neg c18] at H
                    have c18b0 : decide (x10_3 < a1) = false := decide_eq_false c18
                    clear c18
                    replace H := Option.bind_eq_some_iff.mp H
                    obtain ⟨⟨t239, t240, t241, t242, t243, t244, t245, t248⟩, A210, H⟩ := H
                    replace H : ((listing_Get.f k3 x8_3 (⟨#[97]⟩ : ByteArray) a0).bind fun bt250 => (if a1 ≥ a0 then (cartridgelaw18_ListingNext.j3 k3 a0 a1 a2 x8_3 t248 bt250.2.2.2.2.2.2.2 (wrap64 ((wrap64 (2 * a1)) + 1))) else (cartridgelaw18_ListingNext.j3 k3 a0 a1 a2 x8_3 t248 bt250.2.2.2.2.2.2.2 (wrap64 (2 * a0))))) = some r := H
                    have A21 := Aside0.mk A210
                    clear A210
                    replace H := Option.bind_eq_some_iff.mp H
                    obtain ⟨⟨t250, t251, t252, t253, t254, t255, t256, t259⟩, A220, H⟩ := H
                    replace H : (if a1 ≥ a0 then (cartridgelaw18_ListingNext.j3 k3 a0 a1 a2 x8_3 t248 t259 (wrap64 ((wrap64 (2 * a1)) + 1))) else (cartridgelaw18_ListingNext.j3 k3 a0 a1 a2 x8_3 t248 t259 (wrap64 (2 * a0)))) = some r := H
                    have A22 := Aside0.mk A220
                    clear A220
                    have HC23 := Aside0.mk H
                    clear H
                    obtain ⟨Ao24, co24, eo24⟩ := Kd.S_slice HO_8.out
                    subst eo24
                    go_upto_if 87 with (first | ((with_reducible refine gate_callee (f := 8) rfl ?_); refine goesL_ (some 74) rfl rfl Try.func8 (by kernel_rfl) rfl #[.slice Ao24 x8_3.length co24, .string (⟨#[97]⟩ : ByteArray)] rfl (by (try simp only [List.map_toArray, List.map_cons, List.map_nil]); first | done | rfl | (simp only [List.length_drop, List.length_take]; rfl)) ?_; (with_reducible refine (listing_Newest.calls k3 _ _ x8_3 (⟨#[97]⟩ : ByteArray) t239 t240 t241 t242 t243 t244 t245 t248 _ ?side1 ?side2 A21.out).mono ?_); (case side1 => repeat (first | exact (Kd.S_reads' HO_8.out).2.2 | (with_reducible refine Kd.C_alloc ?_ _) | (with_reducible refine Kd.C_drewN ?_ _) | (with_reducible refine Kd.C_drew ?_))); (case side2 => exact (Kd.S_reads' HO_8.out).2.1); rintro e w25 ⟨v246, rfl, ho0, hb⟩; refine ⟨_, rfl, ?_⟩; have n0_ := Aside0.mk (Kd.S_elder' (by (with_reducible repeat (first | apply Kd.S_alloc | apply Kd.S_drewN | apply Kd.S_drew)); exact HO_8.out) (Kd.R_base ho0) hb); have n1_ := Aside0.mk (Kd.R_lower ho0 (below_size (by repeat (first | (with_reducible first | exact HB.out | apply below_alloc | apply pw_below_drewN | apply below_drew1) | exact HB.out)))); have n2_ := Aside0.mk (below_step (by repeat (first | (with_reducible first | exact HB.out | apply below_alloc | apply pw_below_drewN | apply below_drew1) | exact HB.out)) hb); clear HO_8; clear HB; have HO_8 := n0_; have HO247 := n1_; have HB := n2_; clear n0_ n1_ n2_; (try clear hb); (try clear hb2); (try clear hk); (try clear hi); (try clear ho0)) | ((with_reducible refine gate_dst (N := 11) rfl ?_); (try (refine gate_guard (by rfl) ?_; dsimp only)); refine box_event ?hg (N := 11) ?hd (cs := #[.string (⟨#[]⟩ : ByteArray), .int .i64 0, .int .i64 0, .int .i64 0, .int .i64 0, .bool false, .slice none 0 0]) (t := 28) ?hr ?_; (case hd => rfl); (case hg => rfl); (case hr => first | (go_simp; done) | (go_simp; rfl)); intro gb249 hg w26 hbox hb; have n0_ := Aside0.mk (Kd.S_below (Kd.S_elderB (by (with_reducible repeat (first | apply Kd.S_alloc | apply Kd.S_drewN | apply Kd.S_drew)); exact HO_8.out) gb249 (Nat.le_of_eq hg.symm)) hb); have n1_ := Aside0.mk (Kd.R_below (by (with_reducible repeat (first | apply Kd.R_alloc | apply Kd.R_drewN | apply Kd.R_drew)); exact HO247.out) hb); have n2_ := Aside0.mk (below_step (by repeat (first | (with_reducible first | exact HB.out | apply below_alloc | apply pw_below_drewN | apply below_drew1) | exact HB.out)) hb); have n3_ := Aside0.mk (hbox); have n4_ := Aside0.mk ((by rw [hg]; exact (below_size (by repeat (first | (with_reducible first | exact HB.out | apply below_alloc | apply pw_below_drewN | apply below_drew1) | exact HB.out))) : w.heap.size ≤ gb249)); have n5_ := Aside0.mk ((by rw [hg]; exact (below_size (by repeat (first | (with_reducible first | exact HB.out | apply below_alloc | apply pw_below_drewN | apply below_drew1) | exact HB.out))) : w.heap.size ≤ gb249)); clear HO_8; clear HO247; clear HB; have HO_8 := n0_; have HO247 := n1_; have HB := n2_; have BK249 := n3_; have GW249 := n4_; have GE249 := n5_; clear n0_ n1_ n2_ n3_ n4_ n5_; clear hb hbox hg; have hcz27_0 : w26.cell? ⟨gb249, 0, none⟩ = some (.string (⟨#[]⟩ : ByteArray)) := (blk_cell BK249.out 0).trans rfl; have hcz27_1 : w26.cell? ⟨gb249, 1, none⟩ = some (.int .i64 0) := (blk_cell BK249.out 1).trans rfl; have hcz27_2 : w26.cell? ⟨gb249, 2, none⟩ = some (.int .i64 0) := (blk_cell BK249.out 2).trans rfl; have hcz27_3 : w26.cell? ⟨gb249, 3, none⟩ = some (.int .i64 0) := (blk_cell BK249.out 3).trans rfl; have hcz27_4 : w26.cell? ⟨gb249, 4, none⟩ = some (.int .i64 0) := (blk_cell BK249.out 4).trans rfl; have hcz27_5 : w26.cell? ⟨gb249, 5, none⟩ = some (.bool false) := (blk_cell BK249.out 5).trans rfl; have hcz27_6 : w26.cell? ⟨gb249, 6, none⟩ = some (.slice none 0 0) := (blk_cell BK249.out 6).trans rfl; have hfz27_0 := blk_frozen BK249.out 0; have hfz27_1 := blk_frozen BK249.out 1; have hfz27_2 := blk_frozen BK249.out 2; have hfz27_3 := blk_frozen BK249.out 3; have hfz27_4 := blk_frozen BK249.out 4; have hfz27_5 := blk_frozen BK249.out 5; have hfz27_6 := blk_frozen BK249.out 6; obtain ⟨Ao28, co28, eo28⟩ := Kd.R_slice HO247.out; subst eo28) | ((with_reducible refine gate_callee (f := 10) rfl ?_); refine goesL_ (some 80) rfl rfl Try.func10 (by kernel_rfl) rfl #[.slice Ao24 x8_3.length co24, .string (⟨#[97]⟩ : ByteArray), .int .i64 a0] rfl (by (try simp only [List.map_toArray, List.map_cons, List.map_nil]); first | done | rfl | (simp only [List.length_drop, List.length_take]; rfl)) ?_; (with_reducible refine (listing_Get.calls k3 _ _ x8_3 (⟨#[97]⟩ : ByteArray) a0 t250 t251 t252 t253 t254 t255 t256 t259 _ ?side1 ?side2 A22.out).mono ?_); (case side1 => refine (Kd.S_reads' (e := 28) (base := w.heap.size) (ok := fun k_ => ((True ∧ some k_ ≠ (.slice Ao28 t245.length co28 : Value).ownBlock) ∧ k_ ≠ gb249)) (n := x8_3.length) (c := co24) ?_).2.2; exact (by (with_reducible repeat (first | apply Kd.S_alloc | apply Kd.S_drewN | apply Kd.S_drew)); exact (Kd.S_mono (Kd.S_far (p := ⟨gb249, 6, none⟩) (Kd.S_far (p := ⟨gb249, 5, none⟩) (Kd.S_far (p := ⟨gb249, 4, none⟩) (Kd.S_far (p := ⟨gb249, 3, none⟩) (Kd.S_far (p := ⟨gb249, 2, none⟩) (Kd.S_far (p := ⟨gb249, 1, none⟩) (Kd.S_far (p := ⟨gb249, 0, none⟩) (Kd.S_mono HO_8.out (fun k_ hk => (⟨hk, hk.2⟩ : _ ∧ k_ ≠ gb249))) (fun _ hk => hk.2) (.string t239)) (fun _ hk => hk.2) (.int .i64 t240)) (fun _ hk => hk.2) (.int .i64 t241)) (fun _ hk => hk.2) (.int .i64 t242)) (fun _ hk => hk.2) (.int .i64 t243)) (fun _ hk => hk.2) (.bool t244)) (fun _ hk => hk.2) (.slice Ao28 t245.length co28)) (fun _ h_ => h_.1)))); (case side2 => exact (Kd.S_reads' HO_8.out).2.1); rintro e w29 ⟨v257, rfl, ho0, hb⟩; refine ⟨_, rfl, ?_⟩; have n0_ := Aside0.mk (Kd.S_elder' (by (with_reducible repeat (first | apply Kd.S_alloc | apply Kd.S_drewN | apply Kd.S_drew)); exact (Kd.S_mono (Kd.S_far (p := ⟨gb249, 6, none⟩) (Kd.S_far (p := ⟨gb249, 5, none⟩) (Kd.S_far (p := ⟨gb249, 4, none⟩) (Kd.S_far (p := ⟨gb249, 3, none⟩) (Kd.S_far (p := ⟨gb249, 2, none⟩) (Kd.S_far (p := ⟨gb249, 1, none⟩) (Kd.S_far (p := ⟨gb249, 0, none⟩) (Kd.S_mono HO_8.out (fun k_ hk => (⟨hk, hk.2⟩ : _ ∧ k_ ≠ gb249))) (fun _ hk => hk.2) (.string t239)) (fun _ hk => hk.2) (.int .i64 t240)) (fun _ hk => hk.2) (.int .i64 t241)) (fun _ hk => hk.2) (.int .i64 t242)) (fun _ hk => hk.2) (.int .i64 t243)) (fun _ hk => hk.2) (.bool t244)) (fun _ hk => hk.2) (.slice Ao28 t245.length co28)) (fun _ h_ => h_.1))) (Kd.R_base ho0) hb); have n1_ := Aside0.mk (Kd.R_elder' (by (with_reducible repeat (first | apply Kd.R_alloc | apply Kd.R_drewN | apply Kd.R_drew)); exact (Kd.R_mono (Kd.R_far (p := ⟨gb249, 6, none⟩) (Kd.R_far (p := ⟨gb249, 5, none⟩) (Kd.R_far (p := ⟨gb249, 4, none⟩) (Kd.R_far (p := ⟨gb249, 3, none⟩) (Kd.R_far (p := ⟨gb249, 2, none⟩) (Kd.R_far (p := ⟨gb249, 1, none⟩) (Kd.R_far (p := ⟨gb249, 0, none⟩) (Kd.R_types HO247.out BK249.out (by decide)) (fun _ hk => hk.2) (.string t239)) (fun _ hk => hk.2) (.int .i64 t240)) (fun _ hk => hk.2) (.int .i64 t241)) (fun _ hk => hk.2) (.int .i64 t242)) (fun _ hk => hk.2) (.int .i64 t243)) (fun _ hk => hk.2) (.bool t244)) (fun _ hk => hk.2) (.slice Ao28 t245.length co28)) (fun _ h_ => h_.1))) (Kd.R_base ho0) hb); have n2_ := Aside0.mk (Kd.R_lower (Kd.R_new' ho0 (Kd.R_lt (by (with_reducible repeat (first | apply Kd.R_alloc | apply Kd.R_drewN | apply Kd.R_drew)); exact (Kd.R_mono (Kd.R_far (p := ⟨gb249, 6, none⟩) (Kd.R_far (p := ⟨gb249, 5, none⟩) (Kd.R_far (p := ⟨gb249, 4, none⟩) (Kd.R_far (p := ⟨gb249, 3, none⟩) (Kd.R_far (p := ⟨gb249, 2, none⟩) (Kd.R_far (p := ⟨gb249, 1, none⟩) (Kd.R_far (p := ⟨gb249, 0, none⟩) (Kd.R_types HO247.out BK249.out (by decide)) (fun _ hk => hk.2) (.string t239)) (fun _ hk => hk.2) (.int .i64 t240)) (fun _ hk => hk.2) (.int .i64 t241)) (fun _ hk => hk.2) (.int .i64 t242)) (fun _ hk => hk.2) (.int .i64 t243)) (fun _ hk => hk.2) (.bool t244)) (fun _ hk => hk.2) (.slice Ao28 t245.length co28)) (fun _ h_ => h_.1))))) (below_size (by repeat (first | (with_reducible first | exact HB.out | apply below_alloc | apply pw_below_drewN | apply below_drew1 | refine below_set ?_ GE249.out) | exact HB.out)))); have n3_ := Aside0.mk (blk_below (g := gb249) (o := .cells #[.string t239, .int .i64 t240, .int .i64 t241, .int .i64 t242, .int .i64 t243, .bool t244, .slice Ao28 t245.length co28] 28 (0, 0)) (by (with_reducible repeat (first | refine blk_drewN ?_ _ | refine blk_drew ?_ | refine blk_alloc ?_ _)); refine blk_put (cs := #[.string t239, .int .i64 t240, .int .i64 t241, .int .i64 t242, .int .i64 t243, .bool t244, .slice none 0 0]) ?_ 6 _ rfl; (with_reducible repeat (first | refine blk_drewN ?_ _ | refine blk_drew ?_ | refine blk_alloc ?_ _)); refine blk_put (cs := #[.string t239, .int .i64 t240, .int .i64 t241, .int .i64 t242, .int .i64 t243, .bool false, .slice none 0 0]) ?_ 5 _ rfl; (with_reducible repeat (first | refine blk_drewN ?_ _ | refine blk_drew ?_ | refine blk_alloc ?_ _)); refine blk_put (cs := #[.string t239, .int .i64 t240, .int .i64 t241, .int .i64 t242, .int .i64 0, .bool false, .slice none 0 0]) ?_ 4 _ rfl; (with_reducible repeat (first | refine blk_drewN ?_ _ | refine blk_drew ?_ | refine blk_alloc ?_ _)); refine blk_put (cs := #[.string t239, .int .i64 t240, .int .i64 t241, .int .i64 0, .int .i64 0, .bool false, .slice none 0 0]) ?_ 3 _ rfl; (with_reducible repeat (first | refine blk_drewN ?_ _ | refine blk_drew ?_ | refine blk_alloc ?_ _)); refine blk_put (cs := #[.string t239, .int .i64 t240, .int .i64 0, .int .i64 0, .int .i64 0, .bool false, .slice none 0 0]) ?_ 2 _ rfl; (with_reducible repeat (first | refine blk_drewN ?_ _ | refine blk_drew ?_ | refine blk_alloc ?_ _)); refine blk_put (cs := #[.string t239, .int .i64 0, .int .i64 0, .int .i64 0, .int .i64 0, .bool false, .slice none 0 0]) ?_ 1 _ rfl; (with_reducible repeat (first | refine blk_drewN ?_ _ | refine blk_drew ?_ | refine blk_alloc ?_ _)); refine blk_put (cs := #[.string (⟨#[]⟩ : ByteArray), .int .i64 0, .int .i64 0, .int .i64 0, .int .i64 0, .bool false, .slice none 0 0]) ?_ 0 _ rfl; (with_reducible repeat (first | refine blk_drewN ?_ _ | refine blk_drew ?_ | refine blk_alloc ?_ _)); exact BK249.out) hb); have n4_ := Aside0.mk (below_step (by repeat (first | (with_reducible first | exact HB.out | apply below_alloc | apply pw_below_drewN | apply below_drew1 | refine below_set ?_ GE249.out) | exact HB.out)) hb); clear HO_8; clear HO247; clear BK249; clear HB; have HO_8 := n0_; have HO247 := n1_; have HO258 := n2_; have BK249 := n3_; have HB := n4_; clear n0_ n1_ n2_ n3_ n4_; (try clear hb); (try clear hb2); (try clear hk); (try clear hi); (try clear ho0)) | ((with_reducible refine gate_dst (N := 13) rfl ?_); (try (refine gate_guard (by rfl) ?_; dsimp only)); refine box_event ?hg (N := 13) ?hd (cs := #[.string (⟨#[]⟩ : ByteArray), .int .i64 0, .int .i64 0, .int .i64 0, .int .i64 0, .bool false, .slice none 0 0]) (t := 28) ?hr ?_; (case hd => rfl); (case hg => rfl); (case hr => first | (go_simp; done) | (go_simp; rfl)); intro gb260 hg w30 hbox hb; have n0_ := Aside0.mk (Kd.S_below (Kd.S_elderB (by (with_reducible repeat (first | apply Kd.S_alloc | apply Kd.S_drewN | apply Kd.S_drew)); exact HO_8.out) gb260 (Nat.le_of_eq hg.symm)) hb); have n1_ := Aside0.mk (Kd.R_below (by (with_reducible repeat (first | apply Kd.R_alloc | apply Kd.R_drewN | apply Kd.R_drew)); exact HO247.out) hb); have n2_ := Aside0.mk (Kd.R_below (by (with_reducible repeat (first | apply Kd.R_alloc | apply Kd.R_drewN | apply Kd.R_drew)); exact HO258.out) hb); have n3_ := Aside0.mk (blk_below (g := gb249) (o := .cells #[.string t239, .int .i64 t240, .int .i64 t241, .int .i64 t242, .int .i64 t243, .bool t244, .slice Ao28 t245.length co28] 28 (0, 0)) (by (with_reducible repeat (first | refine blk_drewN ?_ _ | refine blk_drew ?_ | refine blk_alloc ?_ _)); exact BK249.out) hb); have n4_ := Aside0.mk (below_step (by repeat (first | (with_reducible first | exact HB.out | apply below_alloc | apply pw_below_drewN | apply below_drew1 | refine below_set ?_ GE249.out) | exact HB.out)) hb); have n5_ := Aside0.mk (hbox); have n6_ := Aside0.mk ((by rw [hg]; exact (below_size (by repeat (first | (with_reducible first | exact HB.out | apply below_alloc | apply pw_below_drewN | apply below_drew1 | refine below_set ?_ GE249.out) | exact HB.out))) : w.heap.size ≤ gb260)); have n7_ := Aside0.mk ((by rw [hg]; exact (below_size (by repeat (first | (with_reducible first | exact HB.out | apply below_alloc | apply pw_below_drewN | apply below_drew1 | refine below_set ?_ GE249.out) | exact HB.out))) : w.heap.size ≤ gb260)); have n8_ := Aside0.mk ((by rw [hg]; exact Nat.ne_of_lt (blk_lt (g := gb249) (o := .cells #[.string t239, .int .i64 t240, .int .i64 t241, .int .i64 t242, .int .i64 t243, .bool t244, .slice Ao28 t245.length co28] 28 (0, 0)) (by (with_reducible repeat (first | refine blk_drewN ?_ _ | refine blk_drew ?_ | refine blk_alloc ?_ _)); exact BK249.out)) : gb249 ≠ gb260)); have n9_ := Aside0.mk ((by rw [hg]; exact Nat.ne_of_gt (blk_lt (g := gb249) (o := .cells #[.string t239, .int .i64 t240, .int .i64 t241, .int .i64 t242, .int .i64 t243, .bool t244, .slice Ao28 t245.length co28] 28 (0, 0)) (by (with_reducible repeat (first | refine blk_drewN ?_ _ | refine blk_drew ?_ | refine blk_alloc ?_ _)); exact BK249.out)) : gb260 ≠ gb249)); clear HO_8; clear HO247; clear HO258; clear BK249; clear HB; have HO_8 := n0_; have HO247 := n1_; have HO258 := n2_; have BK249 := n3_; have HB := n4_; have BK260 := n5_; have GW260 := n6_; have GE260 := n7_; have NB249_260 := n8_; have NB260_249 := n9_; clear n0_ n1_ n2_ n3_ n4_ n5_ n6_ n7_ n8_ n9_; clear hb hbox hg; have hnb31 := NB260_249.out; have hnc31 := NB249_260.out; have hcz32_0 : w30.cell? ⟨gb260, 0, none⟩ = some (.string (⟨#[]⟩ : ByteArray)) := (blk_cell BK260.out 0).trans rfl; have hcz32_1 : w30.cell? ⟨gb260, 1, none⟩ = some (.int .i64 0) := (blk_cell BK260.out 1).trans rfl; have hcz32_2 : w30.cell? ⟨gb260, 2, none⟩ = some (.int .i64 0) := (blk_cell BK260.out 2).trans rfl; have hcz32_3 : w30.cell? ⟨gb260, 3, none⟩ = some (.int .i64 0) := (blk_cell BK260.out 3).trans rfl; have hcz32_4 : w30.cell? ⟨gb260, 4, none⟩ = some (.int .i64 0) := (blk_cell BK260.out 4).trans rfl; have hcz32_5 : w30.cell? ⟨gb260, 5, none⟩ = some (.bool false) := (blk_cell BK260.out 5).trans rfl; have hcz32_6 : w30.cell? ⟨gb260, 6, none⟩ = some (.slice none 0 0) := (blk_cell BK260.out 6).trans rfl; have hfz32_0 := blk_frozen BK260.out 0; have hfz32_1 := blk_frozen BK260.out 1; have hfz32_2 := blk_frozen BK260.out 2; have hfz32_3 := blk_frozen BK260.out 3; have hfz32_4 := blk_frozen BK260.out 4; have hfz32_5 := blk_frozen BK260.out 5; have hfz32_6 := blk_frozen BK260.out 6; obtain ⟨Ao33, co33, eo33⟩ := Kd.R_slice HO258.out; subst eo33))
                    (try simp only [Act.put, List.setIfInBounds_toArray, List.set_cons_zero, List.set_cons_succ])
                    go_cut [15] (fun v15 wc => ∃ (kq : Nat) (x15_22 : Int), v15 = .int .i64 x15_22 ∧ Aside0 (cartridgelaw18_ListingNext.j3 kq a0 a1 a2 x8_3 t248 t259 x15_22 = some r) ∧ Aside0 (kq ≤ k3) ∧ Aside0 (Kd.S k28 28 wc w.heap.size (fun k_ => some k_ ≠ ((.slice Ao28 t245.length co28) : Value).ownBlock ∧ some k_ ≠ ((.slice Ao33 t256.length co33) : Value).ownBlock ∧ k_ ≠ gb249 ∧ k_ ≠ gb260) (.slice Ao24 x8_3.length co24) x8_3) ∧ Aside0 (Kd.R k47 47 wc w.heap.size (fun k_ => some k_ ≠ ((.slice Ao33 t256.length co33) : Value).ownBlock) (.slice Ao28 t245.length co28) t245) ∧ Aside0 (Kd.R k47 47 wc w.heap.size (fun k_ => some k_ ≠ ((.slice Ao28 t245.length co28) : Value).ownBlock) (.slice Ao33 t256.length co33) t256) ∧ Aside0 (wc.heap[gb249]? = some (.cells #[.string t239, .int .i64 t240, .int .i64 t241, .int .i64 t242, .int .i64 t243, .bool t244, (.slice Ao28 t245.length co28)] 28 (0, 0))) ∧ Aside0 (wc.heap[gb260]? = some (.cells #[.string t250, .int .i64 t251, .int .i64 t252, .int .i64 t253, .int .i64 t254, .bool t255, (.slice Ao33 t256.length co33)] 28 (0, 0))) ∧ Aside0 (Below w.heap.size w wc))
                    case first =>
                      have H := HC23.out
                      clear HC23
                      by_cases c34 : a1 ≥ a0
                      · rw [if_pos c34] at H
                        have c34b0 : decide (a0 ≤ a1) = true := decide_eq_true c34
                        clear c34
                        (first | rw [c34b0] | (simp only [i64_w, i32_w]; rw [c34b0]) | skip)
                        have H' := Aside0.mk H
                        clear H
                        go_wp2
                        go_meet
                        case rel => exact ⟨_, (wrap64 ((wrap64 (2 * a1)) + 1)), (by first | rfl | (simp; done) | (simp [*]; done)), H', ⟨by have := HJ4.out; have := HK2.out; have := HK3.out; first | omega | exact Nat.le_refl _⟩, ⟨by (with_reducible repeat (first | apply Kd.S_alloc | apply Kd.S_drewN | apply Kd.S_drew)); exact Kd.S_mono (Kd.S_far (p := ⟨gb260, 6, none⟩) (Kd.S_far (p := ⟨gb260, 5, none⟩) (Kd.S_far (p := ⟨gb260, 4, none⟩) (Kd.S_far (p := ⟨gb260, 3, none⟩) (Kd.S_far (p := ⟨gb260, 2, none⟩) (Kd.S_far (p := ⟨gb260, 1, none⟩) (Kd.S_far (p := ⟨gb260, 0, none⟩) (Kd.S_mono HO_8.out (fun k_ hk => (⟨hk, hk.2⟩ : _ ∧ k_ ≠ gb260))) (fun _ hk => hk.2) (.string t250)) (fun _ hk => hk.2) (.int .i64 t251)) (fun _ hk => hk.2) (.int .i64 t252)) (fun _ hk => hk.2) (.int .i64 t253)) (fun _ hk => hk.2) (.int .i64 t254)) (fun _ hk => hk.2) (.bool t255)) (fun _ hk => hk.2) (.slice Ao33 t256.length co33)) (fun _ hk => ⟨hk.1.1.1.1.2, ⟨hk.1.1.2, ⟨hk.1.1.1.2, hk.1.2⟩⟩⟩)⟩, ⟨by (with_reducible repeat (first | apply Kd.R_alloc | apply Kd.R_drewN | apply Kd.R_drew)); exact Kd.R_mono (Kd.R_far (p := ⟨gb260, 6, none⟩) (Kd.R_far (p := ⟨gb260, 5, none⟩) (Kd.R_far (p := ⟨gb260, 4, none⟩) (Kd.R_far (p := ⟨gb260, 3, none⟩) (Kd.R_far (p := ⟨gb260, 2, none⟩) (Kd.R_far (p := ⟨gb260, 1, none⟩) (Kd.R_far (p := ⟨gb260, 0, none⟩) (Kd.R_types HO247.out BK260.out (by decide)) (fun _ hk => hk.2) (.string t250)) (fun _ hk => hk.2) (.int .i64 t251)) (fun _ hk => hk.2) (.int .i64 t252)) (fun _ hk => hk.2) (.int .i64 t253)) (fun _ hk => hk.2) (.int .i64 t254)) (fun _ hk => hk.2) (.bool t255)) (fun _ hk => hk.2) (.slice Ao33 t256.length co33)) (fun _ hk => hk.1.2)⟩, ⟨by (with_reducible repeat (first | apply Kd.R_alloc | apply Kd.R_drewN | apply Kd.R_drew)); exact Kd.R_mono (Kd.R_far (p := ⟨gb260, 6, none⟩) (Kd.R_far (p := ⟨gb260, 5, none⟩) (Kd.R_far (p := ⟨gb260, 4, none⟩) (Kd.R_far (p := ⟨gb260, 3, none⟩) (Kd.R_far (p := ⟨gb260, 2, none⟩) (Kd.R_far (p := ⟨gb260, 1, none⟩) (Kd.R_far (p := ⟨gb260, 0, none⟩) (Kd.R_types HO258.out BK260.out (by decide)) (fun _ hk => hk.2) (.string t250)) (fun _ hk => hk.2) (.int .i64 t251)) (fun _ hk => hk.2) (.int .i64 t252)) (fun _ hk => hk.2) (.int .i64 t253)) (fun _ hk => hk.2) (.int .i64 t254)) (fun _ hk => hk.2) (.bool t255)) (fun _ hk => hk.2) (.slice Ao33 t256.length co33)) (fun _ hk => hk.1.2)⟩, ⟨by (with_reducible repeat (first | refine blk_drewN ?_ _ | refine blk_drew ?_ | refine blk_alloc ?_ _)); refine blk_far ?_ NB249_260.out _; (with_reducible repeat (first | refine blk_drewN ?_ _ | refine blk_drew ?_ | refine blk_alloc ?_ _)); refine blk_far ?_ NB249_260.out _; (with_reducible repeat (first | refine blk_drewN ?_ _ | refine blk_drew ?_ | refine blk_alloc ?_ _)); refine blk_far ?_ NB249_260.out _; (with_reducible repeat (first | refine blk_drewN ?_ _ | refine blk_drew ?_ | refine blk_alloc ?_ _)); refine blk_far ?_ NB249_260.out _; (with_reducible repeat (first | refine blk_drewN ?_ _ | refine blk_drew ?_ | refine blk_alloc ?_ _)); refine blk_far ?_ NB249_260.out _; (with_reducible repeat (first | refine blk_drewN ?_ _ | refine blk_drew ?_ | refine blk_alloc ?_ _)); refine blk_far ?_ NB249_260.out _; (with_reducible repeat (first | refine blk_drewN ?_ _ | refine blk_drew ?_ | refine blk_alloc ?_ _)); refine blk_far ?_ NB249_260.out _; (with_reducible repeat (first | refine blk_drewN ?_ _ | refine blk_drew ?_ | refine blk_alloc ?_ _)); exact BK249.out⟩, ⟨by (with_reducible repeat (first | refine blk_drewN ?_ _ | refine blk_drew ?_ | refine blk_alloc ?_ _)); refine blk_put (cs := #[.string t250, .int .i64 t251, .int .i64 t252, .int .i64 t253, .int .i64 t254, .bool t255, .slice none 0 0]) ?_ 6 _ rfl; (with_reducible repeat (first | refine blk_drewN ?_ _ | refine blk_drew ?_ | refine blk_alloc ?_ _)); refine blk_put (cs := #[.string t250, .int .i64 t251, .int .i64 t252, .int .i64 t253, .int .i64 t254, .bool false, .slice none 0 0]) ?_ 5 _ rfl; (with_reducible repeat (first | refine blk_drewN ?_ _ | refine blk_drew ?_ | refine blk_alloc ?_ _)); refine blk_put (cs := #[.string t250, .int .i64 t251, .int .i64 t252, .int .i64 t253, .int .i64 0, .bool false, .slice none 0 0]) ?_ 4 _ rfl; (with_reducible repeat (first | refine blk_drewN ?_ _ | refine blk_drew ?_ | refine blk_alloc ?_ _)); refine blk_put (cs := #[.string t250, .int .i64 t251, .int .i64 t252, .int .i64 0, .int .i64 0, .bool false, .slice none 0 0]) ?_ 3 _ rfl; (with_reducible repeat (first | refine blk_drewN ?_ _ | refine blk_drew ?_ | refine blk_alloc ?_ _)); refine blk_put (cs := #[.string t250, .int .i64 t251, .int .i64 0, .int .i64 0, .int .i64 0, .bool false, .slice none 0 0]) ?_ 2 _ rfl; (with_reducible repeat (first | refine blk_drewN ?_ _ | refine blk_drew ?_ | refine blk_alloc ?_ _)); refine blk_put (cs := #[.string t250, .int .i64 0, .int .i64 0, .int .i64 0, .int .i64 0, .bool false, .slice none 0 0]) ?_ 1 _ rfl; (with_reducible repeat (first | refine blk_drewN ?_ _ | refine blk_drew ?_ | refine blk_alloc ?_ _)); refine blk_put (cs := #[.string (⟨#[]⟩ : ByteArray), .int .i64 0, .int .i64 0, .int .i64 0, .int .i64 0, .bool false, .slice none 0 0]) ?_ 0 _ rfl; (with_reducible repeat (first | refine blk_drewN ?_ _ | refine blk_drew ?_ | refine blk_alloc ?_ _)); exact BK260.out⟩, ⟨by repeat (first | (with_reducible first | exact HB.out | apply below_alloc | apply pw_below_drewN | apply below_drew1 | refine below_set ?_ GE249.out | refine below_set ?_ GE260.out) | exact HB.out)⟩⟩
                      · rw [if_neg c34] at H
                        have c34b0 : decide (a0 ≤ a1) = false := decide_eq_false c34
                        clear c34
                        (first | rw [c34b0] | (simp only [i64_w, i32_w]; rw [c34b0]) | skip)
                        have H' := Aside0.mk H
                        clear H
                        go_wp2
                        go_meet
                        case rel => exact ⟨_, (wrap64 (2 * a0)), (by first | rfl | (simp; done) | (simp [*]; done)), H', ⟨by have := HJ4.out; have := HK2.out; have := HK3.out; first | omega | exact Nat.le_refl _⟩, ⟨by (with_reducible repeat (first | apply Kd.S_alloc | apply Kd.S_drewN | apply Kd.S_drew)); exact Kd.S_mono (Kd.S_far (p := ⟨gb260, 6, none⟩) (Kd.S_far (p := ⟨gb260, 5, none⟩) (Kd.S_far (p := ⟨gb260, 4, none⟩) (Kd.S_far (p := ⟨gb260, 3, none⟩) (Kd.S_far (p := ⟨gb260, 2, none⟩) (Kd.S_far (p := ⟨gb260, 1, none⟩) (Kd.S_far (p := ⟨gb260, 0, none⟩) (Kd.S_mono HO_8.out (fun k_ hk => (⟨hk, hk.2⟩ : _ ∧ k_ ≠ gb260))) (fun _ hk => hk.2) (.string t250)) (fun _ hk => hk.2) (.int .i64 t251)) (fun _ hk => hk.2) (.int .i64 t252)) (fun _ hk => hk.2) (.int .i64 t253)) (fun _ hk => hk.2) (.int .i64 t254)) (fun _ hk => hk.2) (.bool t255)) (fun _ hk => hk.2) (.slice Ao33 t256.length co33)) (fun _ hk => ⟨hk.1.1.1.1.2, ⟨hk.1.1.2, ⟨hk.1.1.1.2, hk.1.2⟩⟩⟩)⟩, ⟨by (with_reducible repeat (first | apply Kd.R_alloc | apply Kd.R_drewN | apply Kd.R_drew)); exact Kd.R_mono (Kd.R_far (p := ⟨gb260, 6, none⟩) (Kd.R_far (p := ⟨gb260, 5, none⟩) (Kd.R_far (p := ⟨gb260, 4, none⟩) (Kd.R_far (p := ⟨gb260, 3, none⟩) (Kd.R_far (p := ⟨gb260, 2, none⟩) (Kd.R_far (p := ⟨gb260, 1, none⟩) (Kd.R_far (p := ⟨gb260, 0, none⟩) (Kd.R_types HO247.out BK260.out (by decide)) (fun _ hk => hk.2) (.string t250)) (fun _ hk => hk.2) (.int .i64 t251)) (fun _ hk => hk.2) (.int .i64 t252)) (fun _ hk => hk.2) (.int .i64 t253)) (fun _ hk => hk.2) (.int .i64 t254)) (fun _ hk => hk.2) (.bool t255)) (fun _ hk => hk.2) (.slice Ao33 t256.length co33)) (fun _ hk => hk.1.2)⟩, ⟨by (with_reducible repeat (first | apply Kd.R_alloc | apply Kd.R_drewN | apply Kd.R_drew)); exact Kd.R_mono (Kd.R_far (p := ⟨gb260, 6, none⟩) (Kd.R_far (p := ⟨gb260, 5, none⟩) (Kd.R_far (p := ⟨gb260, 4, none⟩) (Kd.R_far (p := ⟨gb260, 3, none⟩) (Kd.R_far (p := ⟨gb260, 2, none⟩) (Kd.R_far (p := ⟨gb260, 1, none⟩) (Kd.R_far (p := ⟨gb260, 0, none⟩) (Kd.R_types HO258.out BK260.out (by decide)) (fun _ hk => hk.2) (.string t250)) (fun _ hk => hk.2) (.int .i64 t251)) (fun _ hk => hk.2) (.int .i64 t252)) (fun _ hk => hk.2) (.int .i64 t253)) (fun _ hk => hk.2) (.int .i64 t254)) (fun _ hk => hk.2) (.bool t255)) (fun _ hk => hk.2) (.slice Ao33 t256.length co33)) (fun _ hk => hk.1.2)⟩, ⟨by (with_reducible repeat (first | refine blk_drewN ?_ _ | refine blk_drew ?_ | refine blk_alloc ?_ _)); refine blk_far ?_ NB249_260.out _; (with_reducible repeat (first | refine blk_drewN ?_ _ | refine blk_drew ?_ | refine blk_alloc ?_ _)); refine blk_far ?_ NB249_260.out _; (with_reducible repeat (first | refine blk_drewN ?_ _ | refine blk_drew ?_ | refine blk_alloc ?_ _)); refine blk_far ?_ NB249_260.out _; (with_reducible repeat (first | refine blk_drewN ?_ _ | refine blk_drew ?_ | refine blk_alloc ?_ _)); refine blk_far ?_ NB249_260.out _; (with_reducible repeat (first | refine blk_drewN ?_ _ | refine blk_drew ?_ | refine blk_alloc ?_ _)); refine blk_far ?_ NB249_260.out _; (with_reducible repeat (first | refine blk_drewN ?_ _ | refine blk_drew ?_ | refine blk_alloc ?_ _)); refine blk_far ?_ NB249_260.out _; (with_reducible repeat (first | refine blk_drewN ?_ _ | refine blk_drew ?_ | refine blk_alloc ?_ _)); refine blk_far ?_ NB249_260.out _; (with_reducible repeat (first | refine blk_drewN ?_ _ | refine blk_drew ?_ | refine blk_alloc ?_ _)); exact BK249.out⟩, ⟨by (with_reducible repeat (first | refine blk_drewN ?_ _ | refine blk_drew ?_ | refine blk_alloc ?_ _)); refine blk_put (cs := #[.string t250, .int .i64 t251, .int .i64 t252, .int .i64 t253, .int .i64 t254, .bool t255, .slice none 0 0]) ?_ 6 _ rfl; (with_reducible repeat (first | refine blk_drewN ?_ _ | refine blk_drew ?_ | refine blk_alloc ?_ _)); refine blk_put (cs := #[.string t250, .int .i64 t251, .int .i64 t252, .int .i64 t253, .int .i64 t254, .bool false, .slice none 0 0]) ?_ 5 _ rfl; (with_reducible repeat (first | refine blk_drewN ?_ _ | refine blk_drew ?_ | refine blk_alloc ?_ _)); refine blk_put (cs := #[.string t250, .int .i64 t251, .int .i64 t252, .int .i64 t253, .int .i64 0, .bool false, .slice none 0 0]) ?_ 4 _ rfl; (with_reducible repeat (first | refine blk_drewN ?_ _ | refine blk_drew ?_ | refine blk_alloc ?_ _)); refine blk_put (cs := #[.string t250, .int .i64 t251, .int .i64 t252, .int .i64 0, .int .i64 0, .bool false, .slice none 0 0]) ?_ 3 _ rfl; (with_reducible repeat (first | refine blk_drewN ?_ _ | refine blk_drew ?_ | refine blk_alloc ?_ _)); refine blk_put (cs := #[.string t250, .int .i64 t251, .int .i64 0, .int .i64 0, .int .i64 0, .bool false, .slice none 0 0]) ?_ 2 _ rfl; (with_reducible repeat (first | refine blk_drewN ?_ _ | refine blk_drew ?_ | refine blk_alloc ?_ _)); refine blk_put (cs := #[.string t250, .int .i64 0, .int .i64 0, .int .i64 0, .int .i64 0, .bool false, .slice none 0 0]) ?_ 1 _ rfl; (with_reducible repeat (first | refine blk_drewN ?_ _ | refine blk_drew ?_ | refine blk_alloc ?_ _)); refine blk_put (cs := #[.string (⟨#[]⟩ : ByteArray), .int .i64 0, .int .i64 0, .int .i64 0, .int .i64 0, .bool false, .slice none 0 0]) ?_ 0 _ rfl; (with_reducible repeat (first | refine blk_drewN ?_ _ | refine blk_drew ?_ | refine blk_alloc ?_ _)); exact BK260.out⟩, ⟨by repeat (first | (with_reducible first | exact HB.out | apply below_alloc | apply pw_below_drewN | apply below_drew1 | refine below_set ?_ GE249.out | refine below_set ?_ GE260.out) | exact HB.out)⟩⟩
                    case rest =>
                      clear HC23
                      try clear c1
                      try clear p2
                      try clear c3
                      try clear c5
                      try clear c6
                      try clear p6
                      try clear c7
                      try clear c8
                      try clear c8b0
                      try clear c9
                      try clear c9b0
                      try clear c10
                      try clear c10b0
                      try clear c11
                      try clear c12
                      try clear c12b0
                      try clear c13
                      try clear c14
                      try clear c16
                      try clear c18
                      try clear c18b0
                      try clear c19
                      try clear c31
                      try clear c34
                      try clear c34b0
                      try clear hcz27_0
                      try clear hcz27_1
                      try clear hcz27_2
                      try clear hcz27_3
                      try clear hcz27_4
                      try clear hcz27_5
                      try clear hcz27_6
                      try clear hcz32_0
                      try clear hcz32_1
                      try clear hcz32_2
                      try clear hcz32_3
                      try clear hcz32_4
                      try clear hcz32_5
                      try clear hcz32_6
                      try clear hfz27_0
                      try clear hfz27_1
                      try clear hfz27_2
                      try clear hfz27_3
                      try clear hfz27_4
                      try clear hfz27_5
                      try clear hfz27_6
                      try clear hfz32_0
                      try clear hfz32_1
                      try clear hfz32_2
                      try clear hfz32_3
                      try clear hfz32_4
                      try clear hfz32_5
                      try clear hfz32_6
                      try clear p2
                      try clear p6
                      obtain ⟨kq, x15_22, rfl, HA, HJ22, HO_8, HO_250006, HO_261006, BK249, BK260, HB⟩ := hcut
                      cases kq with
                      | zero => exact absurd HA.out (by simp [cartridgelaw18_ListingNext.j3])
                      | succ kj22 =>
                        have H := HA.out
                        clear HA
                        simp only [cartridgelaw18_ListingNext.j3] at H
                        have HC35 := Aside0.mk H
                        clear H
                        go_upto_if 91 with (fail)
                        go_cut [16] (fun v16 wc => ∃ (kq : Nat) (x16_34 : Int), v16 = .int .i64 x16_34 ∧ Aside0 (cartridgelaw18_ListingNext.j4 kq a0 a1 a2 x8_3 t248 t259 x15_22 x16_34 = some r) ∧ Aside0 (kq ≤ kj22) ∧ Aside0 (Kd.S k28 28 wc w.heap.size (fun k_ => some k_ ≠ ((.slice Ao28 t245.length co28) : Value).ownBlock ∧ some k_ ≠ ((.slice Ao33 t256.length co33) : Value).ownBlock ∧ k_ ≠ gb249 ∧ k_ ≠ gb260) (.slice Ao24 x8_3.length co24) x8_3) ∧ Aside0 (Kd.R k47 47 wc w.heap.size (fun k_ => some k_ ≠ ((.slice Ao33 t256.length co33) : Value).ownBlock) (.slice Ao28 t245.length co28) t245) ∧ Aside0 (Kd.R k47 47 wc w.heap.size (fun k_ => some k_ ≠ ((.slice Ao28 t245.length co28) : Value).ownBlock) (.slice Ao33 t256.length co33) t256) ∧ Aside0 (wc.heap[gb249]? = some (.cells #[.string t239, .int .i64 t240, .int .i64 t241, .int .i64 t242, .int .i64 t243, .bool t244, (.slice Ao28 t245.length co28)] 28 (0, 0))) ∧ Aside0 (wc.heap[gb260]? = some (.cells #[.string t250, .int .i64 t251, .int .i64 t252, .int .i64 t253, .int .i64 t254, .bool t255, (.slice Ao33 t256.length co33)] 28 (0, 0))) ∧ Aside0 (Below w.heap.size w wc))
                        case first =>
                          have H := HC35.out
                          clear HC35
                          by_cases c36 : a2 = true
                          · subst c36
                            have H1 : (cartridgelaw18_ListingNext.j4 kj22 a0 a1 true x8_3 t248 t259 x15_22 1) = some r := by rw [if_pos rfl] at H; exact H
                            clear H
                            have H := H1
                            clear H1
                            have H' := Aside0.mk H
                            clear H
                            go_wp2
                            go_meet
                            case rel => exact ⟨_, (1), (by first | rfl | (simp; done) | (simp [*]; done)), H', ⟨by have := HJ4.out; have := HK2.out; have := HK3.out; have := HJ22.out; first | omega | exact Nat.le_refl _⟩, ⟨by (with_reducible repeat (first | apply Kd.S_alloc | apply Kd.S_drewN | apply Kd.S_drew)); exact HO_8.out⟩, ⟨by (with_reducible repeat (first | apply Kd.R_alloc | apply Kd.R_drewN | apply Kd.R_drew)); exact HO_250006.out⟩, ⟨by (with_reducible repeat (first | apply Kd.R_alloc | apply Kd.R_drewN | apply Kd.R_drew)); exact HO_261006.out⟩, ⟨by (with_reducible repeat (first | refine blk_drewN ?_ _ | refine blk_drew ?_ | refine blk_alloc ?_ _)); exact BK249.out⟩, ⟨by (with_reducible repeat (first | refine blk_drewN ?_ _ | refine blk_drew ?_ | refine blk_alloc ?_ _)); exact BK260.out⟩, ⟨by repeat (first | (with_reducible first | exact HB.out | apply below_alloc | apply pw_below_drewN | apply below_drew1 | refine below_set ?_ GE249.out | refine below_set ?_ GE260.out) | exact HB.out)⟩⟩
                          · replace c36 := Bool.eq_false_iff.mpr c36
                            subst c36
                            have H1 : (cartridgelaw18_ListingNext.j4 kj22 a0 a1 false x8_3 t248 t259 x15_22 2) = some r := by rw [if_neg (show ¬ (false = true) by decide)] at H; exact H
                            clear H
                            have H := H1
                            clear H1
                            have H' := Aside0.mk H
                            clear H
                            go_wp2
                            go_meet
                            case rel => exact ⟨_, (2), (by first | rfl | (simp; done) | (simp [*]; done)), H', ⟨by have := HJ4.out; have := HK2.out; have := HK3.out; have := HJ22.out; first | omega | exact Nat.le_refl _⟩, ⟨by (with_reducible repeat (first | apply Kd.S_alloc | apply Kd.S_drewN | apply Kd.S_drew)); exact HO_8.out⟩, ⟨by (with_reducible repeat (first | apply Kd.R_alloc | apply Kd.R_drewN | apply Kd.R_drew)); exact HO_250006.out⟩, ⟨by (with_reducible repeat (first | apply Kd.R_alloc | apply Kd.R_drewN | apply Kd.R_drew)); exact HO_261006.out⟩, ⟨by (with_reducible repeat (first | refine blk_drewN ?_ _ | refine blk_drew ?_ | refine blk_alloc ?_ _)); exact BK249.out⟩, ⟨by (with_reducible repeat (first | refine blk_drewN ?_ _ | refine blk_drew ?_ | refine blk_alloc ?_ _)); exact BK260.out⟩, ⟨by repeat (first | (with_reducible first | exact HB.out | apply below_alloc | apply pw_below_drewN | apply below_drew1 | refine below_set ?_ GE249.out | refine below_set ?_ GE260.out) | exact HB.out)⟩⟩
                        case rest =>
                          clear HC35
                          try clear c1
                          try clear p2
                          try clear c3
                          try clear c5
                          try clear c6
                          try clear p6
                          try clear c7
                          try clear c8
                          try clear c8b0
                          try clear c9
                          try clear c9b0
                          try clear c10
                          try clear c10b0
                          try clear c11
                          try clear c12
                          try clear c12b0
                          try clear c13
                          try clear c14
                          try clear c16
                          try clear c18
                          try clear c18b0
                          try clear c19
                          try clear c31
                          try clear c34
                          try clear c34b0
                          try clear c36
                          try clear hcz27_0
                          try clear hcz27_1
                          try clear hcz27_2
                          try clear hcz27_3
                          try clear hcz27_4
                          try clear hcz27_5
                          try clear hcz27_6
                          try clear hcz32_0
                          try clear hcz32_1
                          try clear hcz32_2
                          try clear hcz32_3
                          try clear hcz32_4
                          try clear hcz32_5
                          try clear hcz32_6
                          try clear hfz27_0
                          try clear hfz27_1
                          try clear hfz27_2
                          try clear hfz27_3
                          try clear hfz27_4
                          try clear hfz27_5
                          try clear hfz27_6
                          try clear hfz32_0
                          try clear hfz32_1
                          try clear hfz32_2
                          try clear hfz32_3
                          try clear hfz32_4
                          try clear hfz32_5
                          try clear hfz32_6
                          try clear p2
                          try clear p6
                          obtain ⟨kq, x16_34, rfl, HA, HJ34, HO_8, HO_250006, HO_261006, BK249, BK260, HB⟩ := hcut
                          cases kq with
                          | zero => exact absurd HA.out (by simp [cartridgelaw18_ListingNext.j4])
                          | succ kj34 =>
                            have H := HA.out
                            clear HA
                            simp only [cartridgelaw18_ListingNext.j4] at H
                            replace H := Option.bind_eq_some_iff.mp H
                            obtain ⟨t261, A370, H⟩ := H
                            replace H : (if t261 = (wrap64 (a0 + 1)) then ((listing_Next.f kj34 x8_3 (⟨#[98]⟩ : ByteArray)).bind fun t262 => (if t262 = (wrap64 (a1 + 1)) then ((listing_Next.f kj34 x8_3 (⟨#[99]⟩ : ByteArray)).bind fun t263 => (if t263 = 1 then ((listing_Serial.f kj34 x8_3).bind fun t264 => (if t264 = x15_22 then (if (t248 == (!a2)) = true then (if (t259 == (!a2)) = true then ((listing_Names.f kj34 x8_3).bind fun t265 => (some ((t265.length : Int) == x16_34))) else (some false)) else (some false)) else (some false))) else (some false))) else (some false))) else (some false)) = some r := H
                            have A37 := Aside0.mk A370
                            clear A370
                            by_cases c38 : t261 = (wrap64 (a0 + 1))
                            · rw [if_pos c38] at H
                              have c38b0 : (t261 == (wrap64 (a0 + 1))) = true := beq_iff_eq.mpr c38
                              have c38b1 : (t261 != (wrap64 (a0 + 1))) = false := bne_eq_false_iff_eq.mpr c38
                              clear c38
                              replace H := Option.bind_eq_some_iff.mp H
                              obtain ⟨t262, A390, H⟩ := H
                              replace H : (if t262 = (wrap64 (a1 + 1)) then ((listing_Next.f kj34 x8_3 (⟨#[99]⟩ : ByteArray)).bind fun t263 => (if t263 = 1 then ((listing_Serial.f kj34 x8_3).bind fun t264 => (if t264 = x15_22 then (if (t248 == (!a2)) = true then (if (t259 == (!a2)) = true then ((listing_Names.f kj34 x8_3).bind fun t265 => (some ((t265.length : Int) == x16_34))) else (some false)) else (some false)) else (some false))) else (some false))) else (some false)) = some r := H
                              have A39 := Aside0.mk A390
                              clear A390
                              by_cases c40 : t262 = (wrap64 (a1 + 1))
                              · rw [if_pos c40] at H
                                have c40b0 : (t262 == (wrap64 (a1 + 1))) = true := beq_iff_eq.mpr c40
                                have c40b1 : (t262 != (wrap64 (a1 + 1))) = false := bne_eq_false_iff_eq.mpr c40
                                clear c40
                                replace H := Option.bind_eq_some_iff.mp H
                                obtain ⟨t263, A410, H⟩ := H
                                replace H : (if t263 = 1 then ((listing_Serial.f kj34 x8_3).bind fun t264 => (if t264 = x15_22 then (if (t248 == (!a2)) = true then (if (t259 == (!a2)) = true then ((listing_Names.f kj34 x8_3).bind fun t265 => (some ((t265.length : Int) == x16_34))) else (some false)) else (some false)) else (some false))) else (some false)) = some r := H
                                have A41 := Aside0.mk A410
                                clear A410
                                by_cases c42 : t263 = 1
                                · rw [if_pos c42] at H
                                  have c42b0 : (t263 == 1) = true := beq_iff_eq.mpr c42
                                  have c42b1 : (t263 != 1) = false := bne_eq_false_iff_eq.mpr c42
                                  clear c42
                                  replace H := Option.bind_eq_some_iff.mp H
                                  obtain ⟨t264, A430, H⟩ := H
                                  replace H : (if t264 = x15_22 then (if (t248 == (!a2)) = true then (if (t259 == (!a2)) = true then ((listing_Names.f kj34 x8_3).bind fun t265 => (some ((t265.length : Int) == x16_34))) else (some false)) else (some false)) else (some false)) = some r := H
                                  have A43 := Aside0.mk A430
                                  clear A430
                                  by_cases c44 : t264 = x15_22
                                  · rw [if_pos c44] at H
                                    have c44b0 : (t264 == x15_22) = true := beq_iff_eq.mpr c44
                                    have c44b1 : (t264 != x15_22) = false := bne_eq_false_iff_eq.mpr c44
                                    clear c44
                                    by_cases c45 : (t248 == (!a2)) = true
                                    · rw [if_pos c45] at H
                                      have c45b0 : (t248 == (!a2)) = true := c45
                                      (try (have c45b1 : decide (t248 = (!a2)) = true := by simpa using c45))
                                      (try (have c45b2 : (t248 == (!a2)) = true := by simpa using c45))
                                      clear c45
                                      by_cases c46 : (t259 == (!a2)) = true
                                      · rw [if_pos c46] at H
                                        have c46b0 : (t259 == (!a2)) = true := c46
                                        (try (have c46b1 : decide (t259 = (!a2)) = true := by simpa using c46))
                                        (try (have c46b2 : (t259 == (!a2)) = true := by simpa using c46))
                                        clear c46
                                        replace H := Option.bind_eq_some_iff.mp H
                                        obtain ⟨t265, A470, H⟩ := H
                                        replace H : (some ((t265.length : Int) == x16_34)) = some r := H
                                        have A47 := Aside0.mk A470
                                        clear A470
                                        obtain rfl := Option.some.inj H
                                        go_wp2_with (first | ((with_reducible refine gate_callee (f := 13) rfl ?_); refine goesL_ (some 93) rfl rfl Try.func13 (by kernel_rfl) rfl #[.slice Ao24 x8_3.length co24, .string (⟨#[97]⟩ : ByteArray)] rfl (by (try simp only [List.map_toArray, List.map_cons, List.map_nil]); first | done | rfl | (simp only [List.length_drop, List.length_take]; rfl)) ?_; (with_reducible refine (listing_Next.calls kj34 _ _ x8_3 (⟨#[97]⟩ : ByteArray) t261 _ ?side1 ?side2 A37.out).mono ?_); (case side1 => repeat (first | exact (Kd.S_reads' HO_8.out).2.2 | (with_reducible refine Kd.C_alloc ?_ _) | (with_reducible refine Kd.C_drewN ?_ _) | (with_reducible refine Kd.C_drew ?_))); (case side2 => exact (Kd.S_reads' HO_8.out).2.1); rintro e w48 ⟨rfl, hb⟩; refine ⟨_, rfl, ?_⟩; have n0_ := Aside0.mk (Kd.S_below (by (with_reducible repeat (first | apply Kd.S_alloc | apply Kd.S_drewN | apply Kd.S_drew)); exact HO_8.out) hb); have n1_ := Aside0.mk (Kd.R_below (by (with_reducible repeat (first | apply Kd.R_alloc | apply Kd.R_drewN | apply Kd.R_drew)); exact HO_250006.out) hb); have n2_ := Aside0.mk (Kd.R_below (by (with_reducible repeat (first | apply Kd.R_alloc | apply Kd.R_drewN | apply Kd.R_drew)); exact HO_261006.out) hb); have n3_ := Aside0.mk (blk_below (g := gb249) (o := .cells #[.string t239, .int .i64 t240, .int .i64 t241, .int .i64 t242, .int .i64 t243, .bool t244, .slice Ao28 t245.length co28] 28 (0, 0)) (by (with_reducible repeat (first | refine blk_drewN ?_ _ | refine blk_drew ?_ | refine blk_alloc ?_ _)); exact BK249.out) hb); have n4_ := Aside0.mk (blk_below (g := gb260) (o := .cells #[.string t250, .int .i64 t251, .int .i64 t252, .int .i64 t253, .int .i64 t254, .bool t255, .slice Ao33 t256.length co33] 28 (0, 0)) (by (with_reducible repeat (first | refine blk_drewN ?_ _ | refine blk_drew ?_ | refine blk_alloc ?_ _)); exact BK260.out) hb); have n5_ := Aside0.mk (below_step (by repeat (first | (with_reducible first | exact HB.out | apply below_alloc | apply pw_below_drewN | apply below_drew1 | refine below_set ?_ GE249.out | refine below_set ?_ GE260.out) | exact HB.out)) hb); clear HO_8; clear HO_250006; clear HO_261006; clear BK249; clear BK260; clear HB; have HO_8 := n0_; have HO_250006 := n1_; have HO_261006 := n2_; have BK249 := n3_; have BK260 := n4_; have HB := n5_; clear n0_ n1_ n2_ n3_ n4_ n5_; (try clear hb); (try clear hb2); (try clear hk); (try clear hi)) | (go_at_call 13; (with_reducible refine (listing_Next.calls kj34 _ _ x8_3 (⟨#[98]⟩ : ByteArray) t262 _ ?side1 ?side2 A39.out).mono ?_); (case side1 => repeat (first | exact (Kd.S_reads' HO_8.out).2.2 | (with_reducible refine Kd.C_alloc ?_ _) | (with_reducible refine Kd.C_drewN ?_ _) | (with_reducible refine Kd.C_drew ?_))); (case side2 => exact (Kd.S_reads' HO_8.out).2.1); rintro e w49 ⟨rfl, hb⟩; have n0_ := Aside0.mk (Kd.S_below (by (with_reducible repeat (first | apply Kd.S_alloc | apply Kd.S_drewN | apply Kd.S_drew)); exact HO_8.out) hb); have n1_ := Aside0.mk (Kd.R_below (by (with_reducible repeat (first | apply Kd.R_alloc | apply Kd.R_drewN | apply Kd.R_drew)); exact HO_250006.out) hb); have n2_ := Aside0.mk (Kd.R_below (by (with_reducible repeat (first | apply Kd.R_alloc | apply Kd.R_drewN | apply Kd.R_drew)); exact HO_261006.out) hb); have n3_ := Aside0.mk (blk_below (g := gb249) (o := .cells #[.string t239, .int .i64 t240, .int .i64 t241, .int .i64 t242, .int .i64 t243, .bool t244, .slice Ao28 t245.length co28] 28 (0, 0)) (by (with_reducible repeat (first | refine blk_drewN ?_ _ | refine blk_drew ?_ | refine blk_alloc ?_ _)); exact BK249.out) hb); have n4_ := Aside0.mk (blk_below (g := gb260) (o := .cells #[.string t250, .int .i64 t251, .int .i64 t252, .int .i64 t253, .int .i64 t254, .bool t255, .slice Ao33 t256.length co33] 28 (0, 0)) (by (with_reducible repeat (first | refine blk_drewN ?_ _ | refine blk_drew ?_ | refine blk_alloc ?_ _)); exact BK260.out) hb); have n5_ := Aside0.mk (below_step (by repeat (first | (with_reducible first | exact HB.out | apply below_alloc | apply pw_below_drewN | apply below_drew1 | refine below_set ?_ GE249.out | refine below_set ?_ GE260.out) | exact HB.out)) hb); clear HO_8; clear HO_250006; clear HO_261006; clear BK249; clear BK260; clear HB; have HO_8 := n0_; have HO_250006 := n1_; have HO_261006 := n2_; have BK249 := n3_; have BK260 := n4_; have HB := n5_; clear n0_ n1_ n2_ n3_ n4_ n5_; (try clear hb); (try clear hb2); (try clear hk); (try clear hi)) | (go_at_call 13; (with_reducible refine (listing_Next.calls kj34 _ _ x8_3 (⟨#[99]⟩ : ByteArray) t263 _ ?side1 ?side2 A41.out).mono ?_); (case side1 => repeat (first | exact (Kd.S_reads' HO_8.out).2.2 | (with_reducible refine Kd.C_alloc ?_ _) | (with_reducible refine Kd.C_drewN ?_ _) | (with_reducible refine Kd.C_drew ?_))); (case side2 => exact (Kd.S_reads' HO_8.out).2.1); rintro e w50 ⟨rfl, hb⟩; have n0_ := Aside0.mk (Kd.S_below (by (with_reducible repeat (first | apply Kd.S_alloc | apply Kd.S_drewN | apply Kd.S_drew)); exact HO_8.out) hb); have n1_ := Aside0.mk (Kd.R_below (by (with_reducible repeat (first | apply Kd.R_alloc | apply Kd.R_drewN | apply Kd.R_drew)); exact HO_250006.out) hb); have n2_ := Aside0.mk (Kd.R_below (by (with_reducible repeat (first | apply Kd.R_alloc | apply Kd.R_drewN | apply Kd.R_drew)); exact HO_261006.out) hb); have n3_ := Aside0.mk (blk_below (g := gb249) (o := .cells #[.string t239, .int .i64 t240, .int .i64 t241, .int .i64 t242, .int .i64 t243, .bool t244, .slice Ao28 t245.length co28] 28 (0, 0)) (by (with_reducible repeat (first | refine blk_drewN ?_ _ | refine blk_drew ?_ | refine blk_alloc ?_ _)); exact BK249.out) hb); have n4_ := Aside0.mk (blk_below (g := gb260) (o := .cells #[.string t250, .int .i64 t251, .int .i64 t252, .int .i64 t253, .int .i64 t254, .bool t255, .slice Ao33 t256.length co33] 28 (0, 0)) (by (with_reducible repeat (first | refine blk_drewN ?_ _ | refine blk_drew ?_ | refine blk_alloc ?_ _)); exact BK260.out) hb); have n5_ := Aside0.mk (below_step (by repeat (first | (with_reducible first | exact HB.out | apply below_alloc | apply pw_below_drewN | apply below_drew1 | refine below_set ?_ GE249.out | refine below_set ?_ GE260.out) | exact HB.out)) hb); clear HO_8; clear HO_250006; clear HO_261006; clear BK249; clear BK260; clear HB; have HO_8 := n0_; have HO_250006 := n1_; have HO_261006 := n2_; have BK249 := n3_; have BK260 := n4_; have HB := n5_; clear n0_ n1_ n2_ n3_ n4_ n5_; (try clear hb); (try clear hb2); (try clear hk); (try clear hi)) | (go_at_call 15; (with_reducible refine (listing_Serial.calls kj34 _ _ x8_3 t264 _ ?side1 ?side2 A43.out).mono ?_); (case side1 => repeat (first | exact (Kd.S_reads' HO_8.out).2.2 | (with_reducible refine Kd.C_alloc ?_ _) | (with_reducible refine Kd.C_drewN ?_ _) | (with_reducible refine Kd.C_drew ?_))); (case side2 => exact (Kd.S_reads' HO_8.out).2.1); rintro e w51 ⟨rfl, hb⟩; have n0_ := Aside0.mk (Kd.S_below (by (with_reducible repeat (first | apply Kd.S_alloc | apply Kd.S_drewN | apply Kd.S_drew)); exact HO_8.out) hb); have n1_ := Aside0.mk (Kd.R_below (by (with_reducible repeat (first | apply Kd.R_alloc | apply Kd.R_drewN | apply Kd.R_drew)); exact HO_250006.out) hb); have n2_ := Aside0.mk (Kd.R_below (by (with_reducible repeat (first | apply Kd.R_alloc | apply Kd.R_drewN | apply Kd.R_drew)); exact HO_261006.out) hb); have n3_ := Aside0.mk (blk_below (g := gb249) (o := .cells #[.string t239, .int .i64 t240, .int .i64 t241, .int .i64 t242, .int .i64 t243, .bool t244, .slice Ao28 t245.length co28] 28 (0, 0)) (by (with_reducible repeat (first | refine blk_drewN ?_ _ | refine blk_drew ?_ | refine blk_alloc ?_ _)); exact BK249.out) hb); have n4_ := Aside0.mk (blk_below (g := gb260) (o := .cells #[.string t250, .int .i64 t251, .int .i64 t252, .int .i64 t253, .int .i64 t254, .bool t255, .slice Ao33 t256.length co33] 28 (0, 0)) (by (with_reducible repeat (first | refine blk_drewN ?_ _ | refine blk_drew ?_ | refine blk_alloc ?_ _)); exact BK260.out) hb); have n5_ := Aside0.mk (below_step (by repeat (first | (with_reducible first | exact HB.out | apply below_alloc | apply pw_below_drewN | apply below_drew1 | refine below_set ?_ GE249.out | refine below_set ?_ GE260.out) | exact HB.out)) hb); clear HO_8; clear HO_250006; clear HO_261006; clear BK249; clear BK260; clear HB; have HO_8 := n0_; have HO_250006 := n1_; have HO_261006 := n2_; have BK249 := n3_; have BK260 := n4_; have HB := n5_; clear n0_ n1_ n2_ n3_ n4_ n5_; (try clear hb); (try clear hb2); (try clear hk); (try clear hi)) | (go_at_call 7; (with_reducible refine (listing_Names.calls kj34 _ _ x8_3 t265 _ ?side1 ?side2 A47.out).mono ?_); (case side1 => repeat (first | exact (Kd.S_reads' HO_8.out).2.2 | (with_reducible refine Kd.C_alloc ?_ _) | (with_reducible refine Kd.C_drewN ?_ _) | (with_reducible refine Kd.C_drew ?_))); (case side2 => exact (Kd.S_reads' HO_8.out).2.1); rintro e w52 ⟨v266, rfl, ho0, hb⟩; have n0_ := Aside0.mk (Kd.S_below (by (with_reducible repeat (first | apply Kd.S_alloc | apply Kd.S_drewN | apply Kd.S_drew)); exact HO_8.out) hb); have n1_ := Aside0.mk (Kd.R_below (by (with_reducible repeat (first | apply Kd.R_alloc | apply Kd.R_drewN | apply Kd.R_drew)); exact HO_250006.out) hb); have n2_ := Aside0.mk (Kd.R_below (by (with_reducible repeat (first | apply Kd.R_alloc | apply Kd.R_drewN | apply Kd.R_drew)); exact HO_261006.out) hb); have n3_ := Aside0.mk (Kd.R_lower ho0 (below_size (by repeat (first | (with_reducible first | exact HB.out | apply below_alloc | apply pw_below_drewN | apply below_drew1 | refine below_set ?_ GE249.out | refine below_set ?_ GE260.out) | exact HB.out)))); have n4_ := Aside0.mk (blk_below (g := gb249) (o := .cells #[.string t239, .int .i64 t240, .int .i64 t241, .int .i64 t242, .int .i64 t243, .bool t244, .slice Ao28 t245.length co28] 28 (0, 0)) (by (with_reducible repeat (first | refine blk_drewN ?_ _ | refine blk_drew ?_ | refine blk_alloc ?_ _)); exact BK249.out) hb); have n5_ := Aside0.mk (blk_below (g := gb260) (o := .cells #[.string t250, .int .i64 t251, .int .i64 t252, .int .i64 t253, .int .i64 t254, .bool t255, .slice Ao33 t256.length co33] 28 (0, 0)) (by (with_reducible repeat (first | refine blk_drewN ?_ _ | refine blk_drew ?_ | refine blk_alloc ?_ _)); exact BK260.out) hb); have n6_ := Aside0.mk (below_step (by repeat (first | (with_reducible first | exact HB.out | apply below_alloc | apply pw_below_drewN | apply below_drew1 | refine below_set ?_ GE249.out | refine below_set ?_ GE260.out) | exact HB.out)) hb); clear HO_8; clear HO_250006; clear HO_261006; clear BK249; clear BK260; clear HB; have HO_8 := n0_; have HO_250006 := n1_; have HO_261006 := n2_; have HO267 := n3_; have BK249 := n4_; have BK260 := n5_; have HB := n6_; clear n0_ n1_ n2_ n3_ n4_ n5_ n6_; (try clear hb); (try clear hb2); (try clear hk); (try clear hi); (try clear ho0); obtain ⟨Ao53, co53, eo53⟩ := Kd.R_slice HO267.out; subst eo53))
                                        go_ret
                                        exact ⟨by first | rfl | (simp [errW_none, errW_some] <;> rfl) | (simp [*, errW_none, errW_some] <;> rfl), by repeat (first | (with_reducible first | exact HB.out | apply below_alloc | apply pw_below_drewN | apply below_drew1 | refine below_set ?_ GE249.out | refine below_set ?_ GE260.out) | exact HB.out)⟩
                                      · rw [if_neg c46] at H
                                        have c46b0 : (t259 == (!a2)) = false := by simpa using c46
                                        (try (have c46b1 : decide (t259 = (!a2)) = false := by simpa using c46))
                                        (try (have c46b2 : (t259 == (!a2)) = false := by simpa using c46))
                                        (try (have c46b3 : ¬ (t259 = (!a2)) := by simpa using c46))
                                        clear c46
                                        obtain rfl := Option.some.inj H
                                        go_wp2_with (first | ((with_reducible refine gate_callee (f := 13) rfl ?_); refine goesL_ (some 93) rfl rfl Try.func13 (by kernel_rfl) rfl #[.slice Ao24 x8_3.length co24, .string (⟨#[97]⟩ : ByteArray)] rfl (by (try simp only [List.map_toArray, List.map_cons, List.map_nil]); first | done | rfl | (simp only [List.length_drop, List.length_take]; rfl)) ?_; (with_reducible refine (listing_Next.calls kj34 _ _ x8_3 (⟨#[97]⟩ : ByteArray) t261 _ ?side1 ?side2 A37.out).mono ?_); (case side1 => repeat (first | exact (Kd.S_reads' HO_8.out).2.2 | (with_reducible refine Kd.C_alloc ?_ _) | (with_reducible refine Kd.C_drewN ?_ _) | (with_reducible refine Kd.C_drew ?_))); (case side2 => exact (Kd.S_reads' HO_8.out).2.1); rintro e w54 ⟨rfl, hb⟩; refine ⟨_, rfl, ?_⟩; have n0_ := Aside0.mk (Kd.S_below (by (with_reducible repeat (first | apply Kd.S_alloc | apply Kd.S_drewN | apply Kd.S_drew)); exact HO_8.out) hb); have n1_ := Aside0.mk (Kd.R_below (by (with_reducible repeat (first | apply Kd.R_alloc | apply Kd.R_drewN | apply Kd.R_drew)); exact HO_250006.out) hb); have n2_ := Aside0.mk (Kd.R_below (by (with_reducible repeat (first | apply Kd.R_alloc | apply Kd.R_drewN | apply Kd.R_drew)); exact HO_261006.out) hb); have n3_ := Aside0.mk (blk_below (g := gb249) (o := .cells #[.string t239, .int .i64 t240, .int .i64 t241, .int .i64 t242, .int .i64 t243, .bool t244, .slice Ao28 t245.length co28] 28 (0, 0)) (by (with_reducible repeat (first | refine blk_drewN ?_ _ | refine blk_drew ?_ | refine blk_alloc ?_ _)); exact BK249.out) hb); have n4_ := Aside0.mk (blk_below (g := gb260) (o := .cells #[.string t250, .int .i64 t251, .int .i64 t252, .int .i64 t253, .int .i64 t254, .bool t255, .slice Ao33 t256.length co33] 28 (0, 0)) (by (with_reducible repeat (first | refine blk_drewN ?_ _ | refine blk_drew ?_ | refine blk_alloc ?_ _)); exact BK260.out) hb); have n5_ := Aside0.mk (below_step (by repeat (first | (with_reducible first | exact HB.out | apply below_alloc | apply pw_below_drewN | apply below_drew1 | refine below_set ?_ GE249.out | refine below_set ?_ GE260.out) | exact HB.out)) hb); clear HO_8; clear HO_250006; clear HO_261006; clear BK249; clear BK260; clear HB; have HO_8 := n0_; have HO_250006 := n1_; have HO_261006 := n2_; have BK249 := n3_; have BK260 := n4_; have HB := n5_; clear n0_ n1_ n2_ n3_ n4_ n5_; (try clear hb); (try clear hb2); (try clear hk); (try clear hi)) | (go_at_call 13; (with_reducible refine (listing_Next.calls kj34 _ _ x8_3 (⟨#[98]⟩ : ByteArray) t262 _ ?side1 ?side2 A39.out).mono ?_); (case side1 => repeat (first | exact (Kd.S_reads' HO_8.out).2.2 | (with_reducible refine Kd.C_alloc ?_ _) | (with_reducible refine Kd.C_drewN ?_ _) | (with_reducible refine Kd.C_drew ?_))); (case side2 => exact (Kd.S_reads' HO_8.out).2.1); rintro e w55 ⟨rfl, hb⟩; have n0_ := Aside0.mk (Kd.S_below (by (with_reducible repeat (first | apply Kd.S_alloc | apply Kd.S_drewN | apply Kd.S_drew)); exact HO_8.out) hb); have n1_ := Aside0.mk (Kd.R_below (by (with_reducible repeat (first | apply Kd.R_alloc | apply Kd.R_drewN | apply Kd.R_drew)); exact HO_250006.out) hb); have n2_ := Aside0.mk (Kd.R_below (by (with_reducible repeat (first | apply Kd.R_alloc | apply Kd.R_drewN | apply Kd.R_drew)); exact HO_261006.out) hb); have n3_ := Aside0.mk (blk_below (g := gb249) (o := .cells #[.string t239, .int .i64 t240, .int .i64 t241, .int .i64 t242, .int .i64 t243, .bool t244, .slice Ao28 t245.length co28] 28 (0, 0)) (by (with_reducible repeat (first | refine blk_drewN ?_ _ | refine blk_drew ?_ | refine blk_alloc ?_ _)); exact BK249.out) hb); have n4_ := Aside0.mk (blk_below (g := gb260) (o := .cells #[.string t250, .int .i64 t251, .int .i64 t252, .int .i64 t253, .int .i64 t254, .bool t255, .slice Ao33 t256.length co33] 28 (0, 0)) (by (with_reducible repeat (first | refine blk_drewN ?_ _ | refine blk_drew ?_ | refine blk_alloc ?_ _)); exact BK260.out) hb); have n5_ := Aside0.mk (below_step (by repeat (first | (with_reducible first | exact HB.out | apply below_alloc | apply pw_below_drewN | apply below_drew1 | refine below_set ?_ GE249.out | refine below_set ?_ GE260.out) | exact HB.out)) hb); clear HO_8; clear HO_250006; clear HO_261006; clear BK249; clear BK260; clear HB; have HO_8 := n0_; have HO_250006 := n1_; have HO_261006 := n2_; have BK249 := n3_; have BK260 := n4_; have HB := n5_; clear n0_ n1_ n2_ n3_ n4_ n5_; (try clear hb); (try clear hb2); (try clear hk); (try clear hi)) | (go_at_call 13; (with_reducible refine (listing_Next.calls kj34 _ _ x8_3 (⟨#[99]⟩ : ByteArray) t263 _ ?side1 ?side2 A41.out).mono ?_); (case side1 => repeat (first | exact (Kd.S_reads' HO_8.out).2.2 | (with_reducible refine Kd.C_alloc ?_ _) | (with_reducible refine Kd.C_drewN ?_ _) | (with_reducible refine Kd.C_drew ?_))); (case side2 => exact (Kd.S_reads' HO_8.out).2.1); rintro e w56 ⟨rfl, hb⟩; have n0_ := Aside0.mk (Kd.S_below (by (with_reducible repeat (first | apply Kd.S_alloc | apply Kd.S_drewN | apply Kd.S_drew)); exact HO_8.out) hb); have n1_ := Aside0.mk (Kd.R_below (by (with_reducible repeat (first | apply Kd.R_alloc | apply Kd.R_drewN | apply Kd.R_drew)); exact HO_250006.out) hb); have n2_ := Aside0.mk (Kd.R_below (by (with_reducible repeat (first | apply Kd.R_alloc | apply Kd.R_drewN | apply Kd.R_drew)); exact HO_261006.out) hb); have n3_ := Aside0.mk (blk_below (g := gb249) (o := .cells #[.string t239, .int .i64 t240, .int .i64 t241, .int .i64 t242, .int .i64 t243, .bool t244, .slice Ao28 t245.length co28] 28 (0, 0)) (by (with_reducible repeat (first | refine blk_drewN ?_ _ | refine blk_drew ?_ | refine blk_alloc ?_ _)); exact BK249.out) hb); have n4_ := Aside0.mk (blk_below (g := gb260) (o := .cells #[.string t250, .int .i64 t251, .int .i64 t252, .int .i64 t253, .int .i64 t254, .bool t255, .slice Ao33 t256.length co33] 28 (0, 0)) (by (with_reducible repeat (first | refine blk_drewN ?_ _ | refine blk_drew ?_ | refine blk_alloc ?_ _)); exact BK260.out) hb); have n5_ := Aside0.mk (below_step (by repeat (first | (with_reducible first | exact HB.out | apply below_alloc | apply pw_below_drewN | apply below_drew1 | refine below_set ?_ GE249.out | refine below_set ?_ GE260.out) | exact HB.out)) hb); clear HO_8; clear HO_250006; clear HO_261006; clear BK249; clear BK260; clear HB; have HO_8 := n0_; have HO_250006 := n1_; have HO_261006 := n2_; have BK249 := n3_; have BK260 := n4_; have HB := n5_; clear n0_ n1_ n2_ n3_ n4_ n5_; (try clear hb); (try clear hb2); (try clear hk); (try clear hi)) | (go_at_call 15; (with_reducible refine (listing_Serial.calls kj34 _ _ x8_3 t264 _ ?side1 ?side2 A43.out).mono ?_); (case side1 => repeat (first | exact (Kd.S_reads' HO_8.out).2.2 | (with_reducible refine Kd.C_alloc ?_ _) | (with_reducible refine Kd.C_drewN ?_ _) | (with_reducible refine Kd.C_drew ?_))); (case side2 => exact (Kd.S_reads' HO_8.out).2.1); rintro e w57 ⟨rfl, hb⟩; have n0_ := Aside0.mk (Kd.S_below (by (with_reducible repeat (first | apply Kd.S_alloc | apply Kd.S_drewN | apply Kd.S_drew)); exact HO_8.out) hb); have n1_ := Aside0.mk (Kd.R_below (by (with_reducible repeat (first | apply Kd.R_alloc | apply Kd.R_drewN | apply Kd.R_drew)); exact HO_250006.out) hb); have n2_ := Aside0.mk (Kd.R_below (by (with_reducible repeat (first | apply Kd.R_alloc | apply Kd.R_drewN | apply Kd.R_drew)); exact HO_261006.out) hb); have n3_ := Aside0.mk (blk_below (g := gb249) (o := .cells #[.string t239, .int .i64 t240, .int .i64 t241, .int .i64 t242, .int .i64 t243, .bool t244, .slice Ao28 t245.length co28] 28 (0, 0)) (by (with_reducible repeat (first | refine blk_drewN ?_ _ | refine blk_drew ?_ | refine blk_alloc ?_ _)); exact BK249.out) hb); have n4_ := Aside0.mk (blk_below (g := gb260) (o := .cells #[.string t250, .int .i64 t251, .int .i64 t252, .int .i64 t253, .int .i64 t254, .bool t255, .slice Ao33 t256.length co33] 28 (0, 0)) (by (with_reducible repeat (first | refine blk_drewN ?_ _ | refine blk_drew ?_ | refine blk_alloc ?_ _)); exact BK260.out) hb); have n5_ := Aside0.mk (below_step (by repeat (first | (with_reducible first | exact HB.out | apply below_alloc | apply pw_below_drewN | apply below_drew1 | refine below_set ?_ GE249.out | refine below_set ?_ GE260.out) | exact HB.out)) hb); clear HO_8; clear HO_250006; clear HO_261006; clear BK249; clear BK260; clear HB; have HO_8 := n0_; have HO_250006 := n1_; have HO_261006 := n2_; have BK249 := n3_; have BK260 := n4_; have HB := n5_; clear n0_ n1_ n2_ n3_ n4_ n5_; (try clear hb); (try clear hb2); (try clear hk); (try clear hi)))
                                        go_ret
                                        exact ⟨by first | rfl | (simp [errW_none, errW_some] <;> rfl) | (simp [*, errW_none, errW_some] <;> rfl), by repeat (first | (with_reducible first | exact HB.out | apply below_alloc | apply pw_below_drewN | apply below_drew1 | refine below_set ?_ GE249.out | refine below_set ?_ GE260.out) | exact HB.out)⟩
                                    · rw [if_neg c45] at H
                                      have c45b0 : (t248 == (!a2)) = false := by simpa using c45
                                      (try (have c45b1 : decide (t248 = (!a2)) = false := by simpa using c45))
                                      (try (have c45b2 : (t248 == (!a2)) = false := by simpa using c45))
                                      (try (have c45b3 : ¬ (t248 = (!a2)) := by simpa using c45))
                                      clear c45
                                      obtain rfl := Option.some.inj H
                                      go_wp2_with (first | ((with_reducible refine gate_callee (f := 13) rfl ?_); refine goesL_ (some 93) rfl rfl Try.func13 (by kernel_rfl) rfl #[.slice Ao24 x8_3.length co24, .string (⟨#[97]⟩ : ByteArray)] rfl (by (try simp only [List.map_toArray, List.map_cons, List.map_nil]); first | done | rfl | (simp only [List.length_drop, List.length_take]; rfl)) ?_; (with_reducible refine (listing_Next.calls kj34 _ _ x8_3 (⟨#[97]⟩ : ByteArray) t261 _ ?side1 ?side2 A37.out).mono ?_); (case side1 => repeat (first | exact (Kd.S_reads' HO_8.out).2.2 | (with_reducible refine Kd.C_alloc ?_ _) | (with_reducible refine Kd.C_drewN ?_ _) | (with_reducible refine Kd.C_drew ?_))); (case side2 => exact (Kd.S_reads' HO_8.out).2.1); rintro e w58 ⟨rfl, hb⟩; refine ⟨_, rfl, ?_⟩; have n0_ := Aside0.mk (Kd.S_below (by (with_reducible repeat (first | apply Kd.S_alloc | apply Kd.S_drewN | apply Kd.S_drew)); exact HO_8.out) hb); have n1_ := Aside0.mk (Kd.R_below (by (with_reducible repeat (first | apply Kd.R_alloc | apply Kd.R_drewN | apply Kd.R_drew)); exact HO_250006.out) hb); have n2_ := Aside0.mk (Kd.R_below (by (with_reducible repeat (first | apply Kd.R_alloc | apply Kd.R_drewN | apply Kd.R_drew)); exact HO_261006.out) hb); have n3_ := Aside0.mk (blk_below (g := gb249) (o := .cells #[.string t239, .int .i64 t240, .int .i64 t241, .int .i64 t242, .int .i64 t243, .bool t244, .slice Ao28 t245.length co28] 28 (0, 0)) (by (with_reducible repeat (first | refine blk_drewN ?_ _ | refine blk_drew ?_ | refine blk_alloc ?_ _)); exact BK249.out) hb); have n4_ := Aside0.mk (blk_below (g := gb260) (o := .cells #[.string t250, .int .i64 t251, .int .i64 t252, .int .i64 t253, .int .i64 t254, .bool t255, .slice Ao33 t256.length co33] 28 (0, 0)) (by (with_reducible repeat (first | refine blk_drewN ?_ _ | refine blk_drew ?_ | refine blk_alloc ?_ _)); exact BK260.out) hb); have n5_ := Aside0.mk (below_step (by repeat (first | (with_reducible first | exact HB.out | apply below_alloc | apply pw_below_drewN | apply below_drew1 | refine below_set ?_ GE249.out | refine below_set ?_ GE260.out) | exact HB.out)) hb); clear HO_8; clear HO_250006; clear HO_261006; clear BK249; clear BK260; clear HB; have HO_8 := n0_; have HO_250006 := n1_; have HO_261006 := n2_; have BK249 := n3_; have BK260 := n4_; have HB := n5_; clear n0_ n1_ n2_ n3_ n4_ n5_; (try clear hb); (try clear hb2); (try clear hk); (try clear hi)) | (go_at_call 13; (with_reducible refine (listing_Next.calls kj34 _ _ x8_3 (⟨#[98]⟩ : ByteArray) t262 _ ?side1 ?side2 A39.out).mono ?_); (case side1 => repeat (first | exact (Kd.S_reads' HO_8.out).2.2 | (with_reducible refine Kd.C_alloc ?_ _) | (with_reducible refine Kd.C_drewN ?_ _) | (with_reducible refine Kd.C_drew ?_))); (case side2 => exact (Kd.S_reads' HO_8.out).2.1); rintro e w59 ⟨rfl, hb⟩; have n0_ := Aside0.mk (Kd.S_below (by (with_reducible repeat (first | apply Kd.S_alloc | apply Kd.S_drewN | apply Kd.S_drew)); exact HO_8.out) hb); have n1_ := Aside0.mk (Kd.R_below (by (with_reducible repeat (first | apply Kd.R_alloc | apply Kd.R_drewN | apply Kd.R_drew)); exact HO_250006.out) hb); have n2_ := Aside0.mk (Kd.R_below (by (with_reducible repeat (first | apply Kd.R_alloc | apply Kd.R_drewN | apply Kd.R_drew)); exact HO_261006.out) hb); have n3_ := Aside0.mk (blk_below (g := gb249) (o := .cells #[.string t239, .int .i64 t240, .int .i64 t241, .int .i64 t242, .int .i64 t243, .bool t244, .slice Ao28 t245.length co28] 28 (0, 0)) (by (with_reducible repeat (first | refine blk_drewN ?_ _ | refine blk_drew ?_ | refine blk_alloc ?_ _)); exact BK249.out) hb); have n4_ := Aside0.mk (blk_below (g := gb260) (o := .cells #[.string t250, .int .i64 t251, .int .i64 t252, .int .i64 t253, .int .i64 t254, .bool t255, .slice Ao33 t256.length co33] 28 (0, 0)) (by (with_reducible repeat (first | refine blk_drewN ?_ _ | refine blk_drew ?_ | refine blk_alloc ?_ _)); exact BK260.out) hb); have n5_ := Aside0.mk (below_step (by repeat (first | (with_reducible first | exact HB.out | apply below_alloc | apply pw_below_drewN | apply below_drew1 | refine below_set ?_ GE249.out | refine below_set ?_ GE260.out) | exact HB.out)) hb); clear HO_8; clear HO_250006; clear HO_261006; clear BK249; clear BK260; clear HB; have HO_8 := n0_; have HO_250006 := n1_; have HO_261006 := n2_; have BK249 := n3_; have BK260 := n4_; have HB := n5_; clear n0_ n1_ n2_ n3_ n4_ n5_; (try clear hb); (try clear hb2); (try clear hk); (try clear hi)) | (go_at_call 13; (with_reducible refine (listing_Next.calls kj34 _ _ x8_3 (⟨#[99]⟩ : ByteArray) t263 _ ?side1 ?side2 A41.out).mono ?_); (case side1 => repeat (first | exact (Kd.S_reads' HO_8.out).2.2 | (with_reducible refine Kd.C_alloc ?_ _) | (with_reducible refine Kd.C_drewN ?_ _) | (with_reducible refine Kd.C_drew ?_))); (case side2 => exact (Kd.S_reads' HO_8.out).2.1); rintro e w60 ⟨rfl, hb⟩; have n0_ := Aside0.mk (Kd.S_below (by (with_reducible repeat (first | apply Kd.S_alloc | apply Kd.S_drewN | apply Kd.S_drew)); exact HO_8.out) hb); have n1_ := Aside0.mk (Kd.R_below (by (with_reducible repeat (first | apply Kd.R_alloc | apply Kd.R_drewN | apply Kd.R_drew)); exact HO_250006.out) hb); have n2_ := Aside0.mk (Kd.R_below (by (with_reducible repeat (first | apply Kd.R_alloc | apply Kd.R_drewN | apply Kd.R_drew)); exact HO_261006.out) hb); have n3_ := Aside0.mk (blk_below (g := gb249) (o := .cells #[.string t239, .int .i64 t240, .int .i64 t241, .int .i64 t242, .int .i64 t243, .bool t244, .slice Ao28 t245.length co28] 28 (0, 0)) (by (with_reducible repeat (first | refine blk_drewN ?_ _ | refine blk_drew ?_ | refine blk_alloc ?_ _)); exact BK249.out) hb); have n4_ := Aside0.mk (blk_below (g := gb260) (o := .cells #[.string t250, .int .i64 t251, .int .i64 t252, .int .i64 t253, .int .i64 t254, .bool t255, .slice Ao33 t256.length co33] 28 (0, 0)) (by (with_reducible repeat (first | refine blk_drewN ?_ _ | refine blk_drew ?_ | refine blk_alloc ?_ _)); exact BK260.out) hb); have n5_ := Aside0.mk (below_step (by repeat (first | (with_reducible first | exact HB.out | apply below_alloc | apply pw_below_drewN | apply below_drew1 | refine below_set ?_ GE249.out | refine below_set ?_ GE260.out) | exact HB.out)) hb); clear HO_8; clear HO_250006; clear HO_261006; clear BK249; clear BK260; clear HB; have HO_8 := n0_; have HO_250006 := n1_; have HO_261006 := n2_; have BK249 := n3_; have BK260 := n4_; have HB := n5_; clear n0_ n1_ n2_ n3_ n4_ n5_; (try clear hb); (try clear hb2); (try clear hk); (try clear hi)) | (go_at_call 15; (with_reducible refine (listing_Serial.calls kj34 _ _ x8_3 t264 _ ?side1 ?side2 A43.out).mono ?_); (case side1 => repeat (first | exact (Kd.S_reads' HO_8.out).2.2 | (with_reducible refine Kd.C_alloc ?_ _) | (with_reducible refine Kd.C_drewN ?_ _) | (with_reducible refine Kd.C_drew ?_))); (case side2 => exact (Kd.S_reads' HO_8.out).2.1); rintro e w61 ⟨rfl, hb⟩; have n0_ := Aside0.mk (Kd.S_below (by (with_reducible repeat (first | apply Kd.S_alloc | apply Kd.S_drewN | apply Kd.S_drew)); exact HO_8.out) hb); have n1_ := Aside0.mk (Kd.R_below (by (with_reducible repeat (first | apply Kd.R_alloc | apply Kd.R_drewN | apply Kd.R_drew)); exact HO_250006.out) hb); have n2_ := Aside0.mk (Kd.R_below (by (with_reducible repeat (first | apply Kd.R_alloc | apply Kd.R_drewN | apply Kd.R_drew)); exact HO_261006.out) hb); have n3_ := Aside0.mk (blk_below (g := gb249) (o := .cells #[.string t239, .int .i64 t240, .int .i64 t241, .int .i64 t242, .int .i64 t243, .bool t244, .slice Ao28 t245.length co28] 28 (0, 0)) (by (with_reducible repeat (first | refine blk_drewN ?_ _ | refine blk_drew ?_ | refine blk_alloc ?_ _)); exact BK249.out) hb); have n4_ := Aside0.mk (blk_below (g := gb260) (o := .cells #[.string t250, .int .i64 t251, .int .i64 t252, .int .i64 t253, .int .i64 t254, .bool t255, .slice Ao33 t256.length co33] 28 (0, 0)) (by (with_reducible repeat (first | refine blk_drewN ?_ _ | refine blk_drew ?_ | refine blk_alloc ?_ _)); exact BK260.out) hb); have n5_ := Aside0.mk (below_step (by repeat (first | (with_reducible first | exact HB.out | apply below_alloc | apply pw_below_drewN | apply below_drew1 | refine below_set ?_ GE249.out | refine below_set ?_ GE260.out) | exact HB.out)) hb); clear HO_8; clear HO_250006; clear HO_261006; clear BK249; clear BK260; clear HB; have HO_8 := n0_; have HO_250006 := n1_; have HO_261006 := n2_; have BK249 := n3_; have BK260 := n4_; have HB := n5_; clear n0_ n1_ n2_ n3_ n4_ n5_; (try clear hb); (try clear hb2); (try clear hk); (try clear hi)))
                                      go_ret
                                      exact ⟨by first | rfl | (simp [errW_none, errW_some] <;> rfl) | (simp [*, errW_none, errW_some] <;> rfl), by repeat (first | (with_reducible first | exact HB.out | apply below_alloc | apply pw_below_drewN | apply below_drew1 | refine below_set ?_ GE249.out | refine below_set ?_ GE260.out) | exact HB.out)⟩
                                  · rw [if_neg c44] at H
                                    have c44b0 : (t264 == x15_22) = false := beq_eq_false_iff_ne.mpr c44
                                    have c44b1 : (t264 != x15_22) = true := bne_iff_ne.mpr c44
                                    obtain rfl := Option.some.inj H
                                    go_wp2_with (first | ((with_reducible refine gate_callee (f := 13) rfl ?_); refine goesL_ (some 93) rfl rfl Try.func13 (by kernel_rfl) rfl #[.slice Ao24 x8_3.length co24, .string (⟨#[97]⟩ : ByteArray)] rfl (by (try simp only [List.map_toArray, List.map_cons, List.map_nil]); first | done | rfl | (simp only [List.length_drop, List.length_take]; rfl)) ?_; (with_reducible refine (listing_Next.calls kj34 _ _ x8_3 (⟨#[97]⟩ : ByteArray) t261 _ ?side1 ?side2 A37.out).mono ?_); (case side1 => repeat (first | exact (Kd.S_reads' HO_8.out).2.2 | (with_reducible refine Kd.C_alloc ?_ _) | (with_reducible refine Kd.C_drewN ?_ _) | (with_reducible refine Kd.C_drew ?_))); (case side2 => exact (Kd.S_reads' HO_8.out).2.1); rintro e w62 ⟨rfl, hb⟩; refine ⟨_, rfl, ?_⟩; have n0_ := Aside0.mk (Kd.S_below (by (with_reducible repeat (first | apply Kd.S_alloc | apply Kd.S_drewN | apply Kd.S_drew)); exact HO_8.out) hb); have n1_ := Aside0.mk (Kd.R_below (by (with_reducible repeat (first | apply Kd.R_alloc | apply Kd.R_drewN | apply Kd.R_drew)); exact HO_250006.out) hb); have n2_ := Aside0.mk (Kd.R_below (by (with_reducible repeat (first | apply Kd.R_alloc | apply Kd.R_drewN | apply Kd.R_drew)); exact HO_261006.out) hb); have n3_ := Aside0.mk (blk_below (g := gb249) (o := .cells #[.string t239, .int .i64 t240, .int .i64 t241, .int .i64 t242, .int .i64 t243, .bool t244, .slice Ao28 t245.length co28] 28 (0, 0)) (by (with_reducible repeat (first | refine blk_drewN ?_ _ | refine blk_drew ?_ | refine blk_alloc ?_ _)); exact BK249.out) hb); have n4_ := Aside0.mk (blk_below (g := gb260) (o := .cells #[.string t250, .int .i64 t251, .int .i64 t252, .int .i64 t253, .int .i64 t254, .bool t255, .slice Ao33 t256.length co33] 28 (0, 0)) (by (with_reducible repeat (first | refine blk_drewN ?_ _ | refine blk_drew ?_ | refine blk_alloc ?_ _)); exact BK260.out) hb); have n5_ := Aside0.mk (below_step (by repeat (first | (with_reducible first | exact HB.out | apply below_alloc | apply pw_below_drewN | apply below_drew1 | refine below_set ?_ GE249.out | refine below_set ?_ GE260.out) | exact HB.out)) hb); clear HO_8; clear HO_250006; clear HO_261006; clear BK249; clear BK260; clear HB; have HO_8 := n0_; have HO_250006 := n1_; have HO_261006 := n2_; have BK249 := n3_; have BK260 := n4_; have HB := n5_; clear n0_ n1_ n2_ n3_ n4_ n5_; (try clear hb); (try clear hb2); (try clear hk); (try clear hi)) | (go_at_call 13; (with_reducible refine (listing_Next.calls kj34 _ _ x8_3 (⟨#[98]⟩ : ByteArray) t262 _ ?side1 ?side2 A39.out).mono ?_); (case side1 => repeat (first | exact (Kd.S_reads' HO_8.out).2.2 | (with_reducible refine Kd.C_alloc ?_ _) | (with_reducible refine Kd.C_drewN ?_ _) | (with_reducible refine Kd.C_drew ?_))); (case side2 => exact (Kd.S_reads' HO_8.out).2.1); rintro e w63 ⟨rfl, hb⟩; have n0_ := Aside0.mk (Kd.S_below (by (with_reducible repeat (first | apply Kd.S_alloc | apply Kd.S_drewN | apply Kd.S_drew)); exact HO_8.out) hb); have n1_ := Aside0.mk (Kd.R_below (by (with_reducible repeat (first | apply Kd.R_alloc | apply Kd.R_drewN | apply Kd.R_drew)); exact HO_250006.out) hb); have n2_ := Aside0.mk (Kd.R_below (by (with_reducible repeat (first | apply Kd.R_alloc | apply Kd.R_drewN | apply Kd.R_drew)); exact HO_261006.out) hb); have n3_ := Aside0.mk (blk_below (g := gb249) (o := .cells #[.string t239, .int .i64 t240, .int .i64 t241, .int .i64 t242, .int .i64 t243, .bool t244, .slice Ao28 t245.length co28] 28 (0, 0)) (by (with_reducible repeat (first | refine blk_drewN ?_ _ | refine blk_drew ?_ | refine blk_alloc ?_ _)); exact BK249.out) hb); have n4_ := Aside0.mk (blk_below (g := gb260) (o := .cells #[.string t250, .int .i64 t251, .int .i64 t252, .int .i64 t253, .int .i64 t254, .bool t255, .slice Ao33 t256.length co33] 28 (0, 0)) (by (with_reducible repeat (first | refine blk_drewN ?_ _ | refine blk_drew ?_ | refine blk_alloc ?_ _)); exact BK260.out) hb); have n5_ := Aside0.mk (below_step (by repeat (first | (with_reducible first | exact HB.out | apply below_alloc | apply pw_below_drewN | apply below_drew1 | refine below_set ?_ GE249.out | refine below_set ?_ GE260.out) | exact HB.out)) hb); clear HO_8; clear HO_250006; clear HO_261006; clear BK249; clear BK260; clear HB; have HO_8 := n0_; have HO_250006 := n1_; have HO_261006 := n2_; have BK249 := n3_; have BK260 := n4_; have HB := n5_; clear n0_ n1_ n2_ n3_ n4_ n5_; (try clear hb); (try clear hb2); (try clear hk); (try clear hi)) | (go_at_call 13; (with_reducible refine (listing_Next.calls kj34 _ _ x8_3 (⟨#[99]⟩ : ByteArray) t263 _ ?side1 ?side2 A41.out).mono ?_); (case side1 => repeat (first | exact (Kd.S_reads' HO_8.out).2.2 | (with_reducible refine Kd.C_alloc ?_ _) | (with_reducible refine Kd.C_drewN ?_ _) | (with_reducible refine Kd.C_drew ?_))); (case side2 => exact (Kd.S_reads' HO_8.out).2.1); rintro e w64 ⟨rfl, hb⟩; have n0_ := Aside0.mk (Kd.S_below (by (with_reducible repeat (first | apply Kd.S_alloc | apply Kd.S_drewN | apply Kd.S_drew)); exact HO_8.out) hb); have n1_ := Aside0.mk (Kd.R_below (by (with_reducible repeat (first | apply Kd.R_alloc | apply Kd.R_drewN | apply Kd.R_drew)); exact HO_250006.out) hb); have n2_ := Aside0.mk (Kd.R_below (by (with_reducible repeat (first | apply Kd.R_alloc | apply Kd.R_drewN | apply Kd.R_drew)); exact HO_261006.out) hb); have n3_ := Aside0.mk (blk_below (g := gb249) (o := .cells #[.string t239, .int .i64 t240, .int .i64 t241, .int .i64 t242, .int .i64 t243, .bool t244, .slice Ao28 t245.length co28] 28 (0, 0)) (by (with_reducible repeat (first | refine blk_drewN ?_ _ | refine blk_drew ?_ | refine blk_alloc ?_ _)); exact BK249.out) hb); have n4_ := Aside0.mk (blk_below (g := gb260) (o := .cells #[.string t250, .int .i64 t251, .int .i64 t252, .int .i64 t253, .int .i64 t254, .bool t255, .slice Ao33 t256.length co33] 28 (0, 0)) (by (with_reducible repeat (first | refine blk_drewN ?_ _ | refine blk_drew ?_ | refine blk_alloc ?_ _)); exact BK260.out) hb); have n5_ := Aside0.mk (below_step (by repeat (first | (with_reducible first | exact HB.out | apply below_alloc | apply pw_below_drewN | apply below_drew1 | refine below_set ?_ GE249.out | refine below_set ?_ GE260.out) | exact HB.out)) hb); clear HO_8; clear HO_250006; clear HO_261006; clear BK249; clear BK260; clear HB; have HO_8 := n0_; have HO_250006 := n1_; have HO_261006 := n2_; have BK249 := n3_; have BK260 := n4_; have HB := n5_; clear n0_ n1_ n2_ n3_ n4_ n5_; (try clear hb); (try clear hb2); (try clear hk); (try clear hi)) | (go_at_call 15; (with_reducible refine (listing_Serial.calls kj34 _ _ x8_3 t264 _ ?side1 ?side2 A43.out).mono ?_); (case side1 => repeat (first | exact (Kd.S_reads' HO_8.out).2.2 | (with_reducible refine Kd.C_alloc ?_ _) | (with_reducible refine Kd.C_drewN ?_ _) | (with_reducible refine Kd.C_drew ?_))); (case side2 => exact (Kd.S_reads' HO_8.out).2.1); rintro e w65 ⟨rfl, hb⟩; have n0_ := Aside0.mk (Kd.S_below (by (with_reducible repeat (first | apply Kd.S_alloc | apply Kd.S_drewN | apply Kd.S_drew)); exact HO_8.out) hb); have n1_ := Aside0.mk (Kd.R_below (by (with_reducible repeat (first | apply Kd.R_alloc | apply Kd.R_drewN | apply Kd.R_drew)); exact HO_250006.out) hb); have n2_ := Aside0.mk (Kd.R_below (by (with_reducible repeat (first | apply Kd.R_alloc | apply Kd.R_drewN | apply Kd.R_drew)); exact HO_261006.out) hb); have n3_ := Aside0.mk (blk_below (g := gb249) (o := .cells #[.string t239, .int .i64 t240, .int .i64 t241, .int .i64 t242, .int .i64 t243, .bool t244, .slice Ao28 t245.length co28] 28 (0, 0)) (by (with_reducible repeat (first | refine blk_drewN ?_ _ | refine blk_drew ?_ | refine blk_alloc ?_ _)); exact BK249.out) hb); have n4_ := Aside0.mk (blk_below (g := gb260) (o := .cells #[.string t250, .int .i64 t251, .int .i64 t252, .int .i64 t253, .int .i64 t254, .bool t255, .slice Ao33 t256.length co33] 28 (0, 0)) (by (with_reducible repeat (first | refine blk_drewN ?_ _ | refine blk_drew ?_ | refine blk_alloc ?_ _)); exact BK260.out) hb); have n5_ := Aside0.mk (below_step (by repeat (first | (with_reducible first | exact HB.out | apply below_alloc | apply pw_below_drewN | apply below_drew1 | refine below_set ?_ GE249.out | refine below_set ?_ GE260.out) | exact HB.out)) hb); clear HO_8; clear HO_250006; clear HO_261006; clear BK249; clear BK260; clear HB; have HO_8 := n0_; have HO_250006 := n1_; have HO_261006 := n2_; have BK249 := n3_; have BK260 := n4_; have HB := n5_; clear n0_ n1_ n2_ n3_ n4_ n5_; (try clear hb); (try clear hb2); (try clear hk); (try clear hi)))
                                    go_ret
                                    exact ⟨by first | rfl | (simp [errW_none, errW_some] <;> rfl) | (simp [*, errW_none, errW_some] <;> rfl), by repeat (first | (with_reducible first | exact HB.out | apply below_alloc | apply pw_below_drewN | apply below_drew1 | refine below_set ?_ GE249.out | refine below_set ?_ GE260.out) | exact HB.out)⟩
                                · rw [if_neg c42] at H
                                  have c42b0 : (t263 == 1) = false := beq_eq_false_iff_ne.mpr c42
                                  have c42b1 : (t263 != 1) = true := bne_iff_ne.mpr c42
                                  obtain rfl := Option.some.inj H
                                  go_wp2_with (first | ((with_reducible refine gate_callee (f := 13) rfl ?_); refine goesL_ (some 93) rfl rfl Try.func13 (by kernel_rfl) rfl #[.slice Ao24 x8_3.length co24, .string (⟨#[97]⟩ : ByteArray)] rfl (by (try simp only [List.map_toArray, List.map_cons, List.map_nil]); first | done | rfl | (simp only [List.length_drop, List.length_take]; rfl)) ?_; (with_reducible refine (listing_Next.calls kj34 _ _ x8_3 (⟨#[97]⟩ : ByteArray) t261 _ ?side1 ?side2 A37.out).mono ?_); (case side1 => repeat (first | exact (Kd.S_reads' HO_8.out).2.2 | (with_reducible refine Kd.C_alloc ?_ _) | (with_reducible refine Kd.C_drewN ?_ _) | (with_reducible refine Kd.C_drew ?_))); (case side2 => exact (Kd.S_reads' HO_8.out).2.1); rintro e w66 ⟨rfl, hb⟩; refine ⟨_, rfl, ?_⟩; have n0_ := Aside0.mk (Kd.S_below (by (with_reducible repeat (first | apply Kd.S_alloc | apply Kd.S_drewN | apply Kd.S_drew)); exact HO_8.out) hb); have n1_ := Aside0.mk (Kd.R_below (by (with_reducible repeat (first | apply Kd.R_alloc | apply Kd.R_drewN | apply Kd.R_drew)); exact HO_250006.out) hb); have n2_ := Aside0.mk (Kd.R_below (by (with_reducible repeat (first | apply Kd.R_alloc | apply Kd.R_drewN | apply Kd.R_drew)); exact HO_261006.out) hb); have n3_ := Aside0.mk (blk_below (g := gb249) (o := .cells #[.string t239, .int .i64 t240, .int .i64 t241, .int .i64 t242, .int .i64 t243, .bool t244, .slice Ao28 t245.length co28] 28 (0, 0)) (by (with_reducible repeat (first | refine blk_drewN ?_ _ | refine blk_drew ?_ | refine blk_alloc ?_ _)); exact BK249.out) hb); have n4_ := Aside0.mk (blk_below (g := gb260) (o := .cells #[.string t250, .int .i64 t251, .int .i64 t252, .int .i64 t253, .int .i64 t254, .bool t255, .slice Ao33 t256.length co33] 28 (0, 0)) (by (with_reducible repeat (first | refine blk_drewN ?_ _ | refine blk_drew ?_ | refine blk_alloc ?_ _)); exact BK260.out) hb); have n5_ := Aside0.mk (below_step (by repeat (first | (with_reducible first | exact HB.out | apply below_alloc | apply pw_below_drewN | apply below_drew1 | refine below_set ?_ GE249.out | refine below_set ?_ GE260.out) | exact HB.out)) hb); clear HO_8; clear HO_250006; clear HO_261006; clear BK249; clear BK260; clear HB; have HO_8 := n0_; have HO_250006 := n1_; have HO_261006 := n2_; have BK249 := n3_; have BK260 := n4_; have HB := n5_; clear n0_ n1_ n2_ n3_ n4_ n5_; (try clear hb); (try clear hb2); (try clear hk); (try clear hi)) | (go_at_call 13; (with_reducible refine (listing_Next.calls kj34 _ _ x8_3 (⟨#[98]⟩ : ByteArray) t262 _ ?side1 ?side2 A39.out).mono ?_); (case side1 => repeat (first | exact (Kd.S_reads' HO_8.out).2.2 | (with_reducible refine Kd.C_alloc ?_ _) | (with_reducible refine Kd.C_drewN ?_ _) | (with_reducible refine Kd.C_drew ?_))); (case side2 => exact (Kd.S_reads' HO_8.out).2.1); rintro e w67 ⟨rfl, hb⟩; have n0_ := Aside0.mk (Kd.S_below (by (with_reducible repeat (first | apply Kd.S_alloc | apply Kd.S_drewN | apply Kd.S_drew)); exact HO_8.out) hb); have n1_ := Aside0.mk (Kd.R_below (by (with_reducible repeat (first | apply Kd.R_alloc | apply Kd.R_drewN | apply Kd.R_drew)); exact HO_250006.out) hb); have n2_ := Aside0.mk (Kd.R_below (by (with_reducible repeat (first | apply Kd.R_alloc | apply Kd.R_drewN | apply Kd.R_drew)); exact HO_261006.out) hb); have n3_ := Aside0.mk (blk_below (g := gb249) (o := .cells #[.string t239, .int .i64 t240, .int .i64 t241, .int .i64 t242, .int .i64 t243, .bool t244, .slice Ao28 t245.length co28] 28 (0, 0)) (by (with_reducible repeat (first | refine blk_drewN ?_ _ | refine blk_drew ?_ | refine blk_alloc ?_ _)); exact BK249.out) hb); have n4_ := Aside0.mk (blk_below (g := gb260) (o := .cells #[.string t250, .int .i64 t251, .int .i64 t252, .int .i64 t253, .int .i64 t254, .bool t255, .slice Ao33 t256.length co33] 28 (0, 0)) (by (with_reducible repeat (first | refine blk_drewN ?_ _ | refine blk_drew ?_ | refine blk_alloc ?_ _)); exact BK260.out) hb); have n5_ := Aside0.mk (below_step (by repeat (first | (with_reducible first | exact HB.out | apply below_alloc | apply pw_below_drewN | apply below_drew1 | refine below_set ?_ GE249.out | refine below_set ?_ GE260.out) | exact HB.out)) hb); clear HO_8; clear HO_250006; clear HO_261006; clear BK249; clear BK260; clear HB; have HO_8 := n0_; have HO_250006 := n1_; have HO_261006 := n2_; have BK249 := n3_; have BK260 := n4_; have HB := n5_; clear n0_ n1_ n2_ n3_ n4_ n5_; (try clear hb); (try clear hb2); (try clear hk); (try clear hi)) | (go_at_call 13; (with_reducible refine (listing_Next.calls kj34 _ _ x8_3 (⟨#[99]⟩ : ByteArray) t263 _ ?side1 ?side2 A41.out).mono ?_); (case side1 => repeat (first | exact (Kd.S_reads' HO_8.out).2.2 | (with_reducible refine Kd.C_alloc ?_ _) | (with_reducible refine Kd.C_drewN ?_ _) | (with_reducible refine Kd.C_drew ?_))); (case side2 => exact (Kd.S_reads' HO_8.out).2.1); rintro e w68 ⟨rfl, hb⟩; have n0_ := Aside0.mk (Kd.S_below (by (with_reducible repeat (first | apply Kd.S_alloc | apply Kd.S_drewN | apply Kd.S_drew)); exact HO_8.out) hb); have n1_ := Aside0.mk (Kd.R_below (by (with_reducible repeat (first | apply Kd.R_alloc | apply Kd.R_drewN | apply Kd.R_drew)); exact HO_250006.out) hb); have n2_ := Aside0.mk (Kd.R_below (by (with_reducible repeat (first | apply Kd.R_alloc | apply Kd.R_drewN | apply Kd.R_drew)); exact HO_261006.out) hb); have n3_ := Aside0.mk (blk_below (g := gb249) (o := .cells #[.string t239, .int .i64 t240, .int .i64 t241, .int .i64 t242, .int .i64 t243, .bool t244, .slice Ao28 t245.length co28] 28 (0, 0)) (by (with_reducible repeat (first | refine blk_drewN ?_ _ | refine blk_drew ?_ | refine blk_alloc ?_ _)); exact BK249.out) hb); have n4_ := Aside0.mk (blk_below (g := gb260) (o := .cells #[.string t250, .int .i64 t251, .int .i64 t252, .int .i64 t253, .int .i64 t254, .bool t255, .slice Ao33 t256.length co33] 28 (0, 0)) (by (with_reducible repeat (first | refine blk_drewN ?_ _ | refine blk_drew ?_ | refine blk_alloc ?_ _)); exact BK260.out) hb); have n5_ := Aside0.mk (below_step (by repeat (first | (with_reducible first | exact HB.out | apply below_alloc | apply pw_below_drewN | apply below_drew1 | refine below_set ?_ GE249.out | refine below_set ?_ GE260.out) | exact HB.out)) hb); clear HO_8; clear HO_250006; clear HO_261006; clear BK249; clear BK260; clear HB; have HO_8 := n0_; have HO_250006 := n1_; have HO_261006 := n2_; have BK249 := n3_; have BK260 := n4_; have HB := n5_; clear n0_ n1_ n2_ n3_ n4_ n5_; (try clear hb); (try clear hb2); (try clear hk); (try clear hi)))
                                  go_ret
                                  exact ⟨by first | rfl | (simp [errW_none, errW_some] <;> rfl) | (simp [*, errW_none, errW_some] <;> rfl), by repeat (first | (with_reducible first | exact HB.out | apply below_alloc | apply pw_below_drewN | apply below_drew1 | refine below_set ?_ GE249.out | refine below_set ?_ GE260.out) | exact HB.out)⟩
                              · rw [if_neg c40] at H
                                have c40b0 : (t262 == (wrap64 (a1 + 1))) = false := beq_eq_false_iff_ne.mpr c40
                                have c40b1 : (t262 != (wrap64 (a1 + 1))) = true := bne_iff_ne.mpr c40
                                obtain rfl := Option.some.inj H
                                go_wp2_with (first | ((with_reducible refine gate_callee (f := 13) rfl ?_); refine goesL_ (some 93) rfl rfl Try.func13 (by kernel_rfl) rfl #[.slice Ao24 x8_3.length co24, .string (⟨#[97]⟩ : ByteArray)] rfl (by (try simp only [List.map_toArray, List.map_cons, List.map_nil]); first | done | rfl | (simp only [List.length_drop, List.length_take]; rfl)) ?_; (with_reducible refine (listing_Next.calls kj34 _ _ x8_3 (⟨#[97]⟩ : ByteArray) t261 _ ?side1 ?side2 A37.out).mono ?_); (case side1 => repeat (first | exact (Kd.S_reads' HO_8.out).2.2 | (with_reducible refine Kd.C_alloc ?_ _) | (with_reducible refine Kd.C_drewN ?_ _) | (with_reducible refine Kd.C_drew ?_))); (case side2 => exact (Kd.S_reads' HO_8.out).2.1); rintro e w69 ⟨rfl, hb⟩; refine ⟨_, rfl, ?_⟩; have n0_ := Aside0.mk (Kd.S_below (by (with_reducible repeat (first | apply Kd.S_alloc | apply Kd.S_drewN | apply Kd.S_drew)); exact HO_8.out) hb); have n1_ := Aside0.mk (Kd.R_below (by (with_reducible repeat (first | apply Kd.R_alloc | apply Kd.R_drewN | apply Kd.R_drew)); exact HO_250006.out) hb); have n2_ := Aside0.mk (Kd.R_below (by (with_reducible repeat (first | apply Kd.R_alloc | apply Kd.R_drewN | apply Kd.R_drew)); exact HO_261006.out) hb); have n3_ := Aside0.mk (blk_below (g := gb249) (o := .cells #[.string t239, .int .i64 t240, .int .i64 t241, .int .i64 t242, .int .i64 t243, .bool t244, .slice Ao28 t245.length co28] 28 (0, 0)) (by (with_reducible repeat (first | refine blk_drewN ?_ _ | refine blk_drew ?_ | refine blk_alloc ?_ _)); exact BK249.out) hb); have n4_ := Aside0.mk (blk_below (g := gb260) (o := .cells #[.string t250, .int .i64 t251, .int .i64 t252, .int .i64 t253, .int .i64 t254, .bool t255, .slice Ao33 t256.length co33] 28 (0, 0)) (by (with_reducible repeat (first | refine blk_drewN ?_ _ | refine blk_drew ?_ | refine blk_alloc ?_ _)); exact BK260.out) hb); have n5_ := Aside0.mk (below_step (by repeat (first | (with_reducible first | exact HB.out | apply below_alloc | apply pw_below_drewN | apply below_drew1 | refine below_set ?_ GE249.out | refine below_set ?_ GE260.out) | exact HB.out)) hb); clear HO_8; clear HO_250006; clear HO_261006; clear BK249; clear BK260; clear HB; have HO_8 := n0_; have HO_250006 := n1_; have HO_261006 := n2_; have BK249 := n3_; have BK260 := n4_; have HB := n5_; clear n0_ n1_ n2_ n3_ n4_ n5_; (try clear hb); (try clear hb2); (try clear hk); (try clear hi)) | (go_at_call 13; (with_reducible refine (listing_Next.calls kj34 _ _ x8_3 (⟨#[98]⟩ : ByteArray) t262 _ ?side1 ?side2 A39.out).mono ?_); (case side1 => repeat (first | exact (Kd.S_reads' HO_8.out).2.2 | (with_reducible refine Kd.C_alloc ?_ _) | (with_reducible refine Kd.C_drewN ?_ _) | (with_reducible refine Kd.C_drew ?_))); (case side2 => exact (Kd.S_reads' HO_8.out).2.1); rintro e w70 ⟨rfl, hb⟩; have n0_ := Aside0.mk (Kd.S_below (by (with_reducible repeat (first | apply Kd.S_alloc | apply Kd.S_drewN | apply Kd.S_drew)); exact HO_8.out) hb); have n1_ := Aside0.mk (Kd.R_below (by (with_reducible repeat (first | apply Kd.R_alloc | apply Kd.R_drewN | apply Kd.R_drew)); exact HO_250006.out) hb); have n2_ := Aside0.mk (Kd.R_below (by (with_reducible repeat (first | apply Kd.R_alloc | apply Kd.R_drewN | apply Kd.R_drew)); exact HO_261006.out) hb); have n3_ := Aside0.mk (blk_below (g := gb249) (o := .cells #[.string t239, .int .i64 t240, .int .i64 t241, .int .i64 t242, .int .i64 t243, .bool t244, .slice Ao28 t245.length co28] 28 (0, 0)) (by (with_reducible repeat (first | refine blk_drewN ?_ _ | refine blk_drew ?_ | refine blk_alloc ?_ _)); exact BK249.out) hb); have n4_ := Aside0.mk (blk_below (g := gb260) (o := .cells #[.string t250, .int .i64 t251, .int .i64 t252, .int .i64 t253, .int .i64 t254, .bool t255, .slice Ao33 t256.length co33] 28 (0, 0)) (by (with_reducible repeat (first | refine blk_drewN ?_ _ | refine blk_drew ?_ | refine blk_alloc ?_ _)); exact BK260.out) hb); have n5_ := Aside0.mk (below_step (by repeat (first | (with_reducible first | exact HB.out | apply below_alloc | apply pw_below_drewN | apply below_drew1 | refine below_set ?_ GE249.out | refine below_set ?_ GE260.out) | exact HB.out)) hb); clear HO_8; clear HO_250006; clear HO_261006; clear BK249; clear BK260; clear HB; have HO_8 := n0_; have HO_250006 := n1_; have HO_261006 := n2_; have BK249 := n3_; have BK260 := n4_; have HB := n5_; clear n0_ n1_ n2_ n3_ n4_ n5_; (try clear hb); (try clear hb2); (try clear hk); (try clear hi)))
                                go_ret
                                exact ⟨by first | rfl | (simp [errW_none, errW_some] <;> rfl) | (simp [*, errW_none, errW_some] <;> rfl), by repeat (first | (with_reducible first | exact HB.out | apply below_alloc | apply pw_below_drewN | apply below_drew1 | refine below_set ?_ GE249.out | refine below_set ?_ GE260.out) | exact HB.out)⟩
                            · rw [if_neg c38] at H
                              have c38b0 : (t261 == (wrap64 (a0 + 1))) = false := beq_eq_false_iff_ne.mpr c38
                              have c38b1 : (t261 != (wrap64 (a0 + 1))) = true := bne_iff_ne.mpr c38
                              obtain rfl := Option.some.inj H
                              go_wp2_with (first | ((with_reducible refine gate_callee (f := 13) rfl ?_); refine goesL_ (some 93) rfl rfl Try.func13 (by kernel_rfl) rfl #[.slice Ao24 x8_3.length co24, .string (⟨#[97]⟩ : ByteArray)] rfl (by (try simp only [List.map_toArray, List.map_cons, List.map_nil]); first | done | rfl | (simp only [List.length_drop, List.length_take]; rfl)) ?_; (with_reducible refine (listing_Next.calls kj34 _ _ x8_3 (⟨#[97]⟩ : ByteArray) t261 _ ?side1 ?side2 A37.out).mono ?_); (case side1 => repeat (first | exact (Kd.S_reads' HO_8.out).2.2 | (with_reducible refine Kd.C_alloc ?_ _) | (with_reducible refine Kd.C_drewN ?_ _) | (with_reducible refine Kd.C_drew ?_))); (case side2 => exact (Kd.S_reads' HO_8.out).2.1); rintro e w71 ⟨rfl, hb⟩; refine ⟨_, rfl, ?_⟩; have n0_ := Aside0.mk (Kd.S_below (by (with_reducible repeat (first | apply Kd.S_alloc | apply Kd.S_drewN | apply Kd.S_drew)); exact HO_8.out) hb); have n1_ := Aside0.mk (Kd.R_below (by (with_reducible repeat (first | apply Kd.R_alloc | apply Kd.R_drewN | apply Kd.R_drew)); exact HO_250006.out) hb); have n2_ := Aside0.mk (Kd.R_below (by (with_reducible repeat (first | apply Kd.R_alloc | apply Kd.R_drewN | apply Kd.R_drew)); exact HO_261006.out) hb); have n3_ := Aside0.mk (blk_below (g := gb249) (o := .cells #[.string t239, .int .i64 t240, .int .i64 t241, .int .i64 t242, .int .i64 t243, .bool t244, .slice Ao28 t245.length co28] 28 (0, 0)) (by (with_reducible repeat (first | refine blk_drewN ?_ _ | refine blk_drew ?_ | refine blk_alloc ?_ _)); exact BK249.out) hb); have n4_ := Aside0.mk (blk_below (g := gb260) (o := .cells #[.string t250, .int .i64 t251, .int .i64 t252, .int .i64 t253, .int .i64 t254, .bool t255, .slice Ao33 t256.length co33] 28 (0, 0)) (by (with_reducible repeat (first | refine blk_drewN ?_ _ | refine blk_drew ?_ | refine blk_alloc ?_ _)); exact BK260.out) hb); have n5_ := Aside0.mk (below_step (by repeat (first | (with_reducible first | exact HB.out | apply below_alloc | apply pw_below_drewN | apply below_drew1 | refine below_set ?_ GE249.out | refine below_set ?_ GE260.out) | exact HB.out)) hb); clear HO_8; clear HO_250006; clear HO_261006; clear BK249; clear BK260; clear HB; have HO_8 := n0_; have HO_250006 := n1_; have HO_261006 := n2_; have BK249 := n3_; have BK260 := n4_; have HB := n5_; clear n0_ n1_ n2_ n3_ n4_ n5_; (try clear hb); (try clear hb2); (try clear hk); (try clear hi)))
                              go_ret
                              exact ⟨by first | rfl | (simp [errW_none, errW_some] <;> rfl) | (simp [*, errW_none, errW_some] <;> rfl), by repeat (first | (with_reducible first | exact HB.out | apply below_alloc | apply pw_below_drewN | apply below_drew1 | refine below_set ?_ GE249.out | refine below_set ?_ GE260.out) | exact HB.out)⟩

/-- THE ONE PURE STATEMENT of cartridgelaw18_ListingNext: yours. -/
def cartridgelaw18_ListingNext.Pure : Prop := ∀ (a0 : Int) (a1 : Int) (a2 : Bool), (Lit.int .i64 a0).wf = true → (Lit.int .i64 a1).wf = true → ∃ k, cartridgelaw18_ListingNext.f k a0 a1 a2 = some true
theorem cartridgelaw18_ListingNext.walk (P : cartridgelaw18_ListingNext.Pure) (a0 : Int) (a1 : Int) (a2 : Bool) (w : World) (w0 : (Lit.int .i64 a0).wf = true) (w1 : (Lit.int .i64 a1).wf = true) :
    Calls Try.prog 5 #[.int .i64 a0, .int .i64 a1, .bool a2] w fun e w' => e = .returned (.bool true) ∧ Below w.heap.size w w' := by
  obtain ⟨k, h⟩ := P a0 a1 a2 w0 w1
  refine (cartridgelaw18_ListingNext.calls k a0 a1 a2 true w h).mono ?_
  rintro e w' ⟨rfl, hd⟩
  exact ⟨rfl, hd⟩

end Go.Proofs.Ytjmbedbapoofdaa.P
