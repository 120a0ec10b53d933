-- Printed by a program of this session (wip/tools/pp.py, over the kit's print).
import Derived.Test.YtjmbedbapoofdaaPx0
import Derived.Test.YtjmbedbapoofdaaPx2
import Derived.Test.YtjmbedbapoofdaaPx7
import Derived.Test.YtjmbedbapoofdaaMGet
namespace Go.Proofs.Ytjmbedbapoofdaa.P
open Go.RowKit Go.Proofs.YtjmbedbapoofdaaW.PrintWords Go.Proofs.YtjmbedbapoofdaaW.PrintLast Go.Proofs.YtjmbedbapoofdaaW.PrintMore
attribute [local go_sem] max2_int min2_int max_two min_two max_three min_three max_four min_four   -- for this text's walks alone
set_option linter.unusedVariables false
set_option linter.unusedSimpArgs false

-- NOT PRINTED: function 4 (cartridgelaw18_ListingTells)

/-! ### cartridgelaw18_ListingNext: function 5 -/
mutual
def cartridgelaw18_ListingNext.j0 : Nat → Int → Int → Bool → Bool → Bool → Option (Bool)
  | 0, _, _, _, _, _ => none
  | k + 1, x0, x1, x2, x7, x35 => if x35 = true then (some x7) else (cartridgelaw18_ListingNext.l0 k x0 x1 x2 ([] : List (S28)) 0)
def cartridgelaw18_ListingNext.l0 : Nat → Int → Int → Bool → List (S28) → Int → Option (Bool)
  | 0, _, _, _, _, _ => none
  | k + 1, x0, x1, x2, x8, x9 => if x9 < x0 then (if x2 = true then (if x8.length < 1759218604441 then (cartridgelaw18_ListingNext.l0 k x0 x1 x2 (x8 ++ [(⟨(⟨#[97]⟩ : ByteArray), wrap64 (x9 + 1), 0, 0, wrap64 ((wrap64 (2 * x9)) + 1), (x9 == (wrap64 (x0 - 1))), ([] : List (S47))⟩ : S28)]) (wrap64 (x9 + 1))) else (none)) else (if x8.length < 1759218604441 then (cartridgelaw18_ListingNext.l0 k x0 x1 x2 (x8 ++ [(⟨(⟨#[97]⟩ : ByteArray), wrap64 (x9 + 1), 0, 0, wrap64 ((wrap64 (2 * x9)) + 1), false, ([] : List (S47))⟩ : S28)]) (wrap64 (x9 + 1))) else (none))) else (cartridgelaw18_ListingNext.l1 k x0 x1 x2 x8 0)
def cartridgelaw18_ListingNext.l1 : Nat → Int → Int → Bool → List (S28) → Int → Option (Bool)
  | 0, _, _, _, _, _ => none
  | k + 1, x0, x1, x2, x8, x10 => if x10 < x1 then (if x8.length < 1759218604441 then (cartridgelaw18_ListingNext.l1 k x0 x1 x2 (x8 ++ [(⟨(⟨#[98]⟩ : ByteArray), wrap64 (x10 + 1), 0, 0, wrap64 ((wrap64 (2 * x10)) + 2), false, ([] : List (S47))⟩ : S28)]) (wrap64 (x10 + 1))) else (none)) else ((listing_Newest.f k x8 (⟨#[97]⟩ : ByteArray)).bind fun bt354 => ((listing_Get.f k x8 (⟨#[97]⟩ : ByteArray) x0).bind fun bt365 => (if x1 ≥ x0 then (cartridgelaw18_ListingNext.j3 k x0 x1 x2 x8 bt354.2.2.2.2.2.2.2 bt365.2.2.2.2.2.2.2 (wrap64 ((wrap64 (2 * x1)) + 1))) else (cartridgelaw18_ListingNext.j3 k x0 x1 x2 x8 bt354.2.2.2.2.2.2.2 bt365.2.2.2.2.2.2.2 (wrap64 (2 * x0))))))
def cartridgelaw18_ListingNext.j3 : Nat → Int → Int → Bool → List (S28) → Bool → Bool → Int → Option (Bool)
  | 0, _, _, _, _, _, _, _ => none
  | k + 1, x0, x1, x2, x8, x12, x14, x15 => if x2 = true then (cartridgelaw18_ListingNext.j4 k x0 x1 x2 x8 x12 x14 x15 1) else (cartridgelaw18_ListingNext.j4 k x0 x1 x2 x8 x12 x14 x15 2)
def cartridgelaw18_ListingNext.j4 : Nat → Int → Int → Bool → List (S28) → Bool → Bool → Int → Int → Option (Bool)
  | 0, _, _, _, _, _, _, _, _ => none
  | k + 1, x0, x1, x2, x8, x12, x14, x15, x16 => (listing_Next.f k x8 (⟨#[97]⟩ : ByteArray)).bind fun t376 => (if t376 = (wrap64 (x0 + 1)) then ((listing_Next.f k x8 (⟨#[98]⟩ : ByteArray)).bind fun t377 => (if t377 = (wrap64 (x1 + 1)) then ((listing_Next.f k x8 (⟨#[99]⟩ : ByteArray)).bind fun t378 => (if t378 = 1 then ((listing_Serial.f k x8).bind fun t379 => (if t379 = x15 then (if (x12 == (!x2)) = true then (if (x14 == (!x2)) = true then ((listing_Names.f k x8).bind fun t380 => (some ((t380.length : Int) == x16))) else (some false)) else (some false)) else (some false))) else (some false))) else (some false))) else (some false))
end
def cartridgelaw18_ListingNext.f (k : Nat) (a0 : Int) (a1 : Int) (a2 : Bool) : Option (Bool) := (cartridgelaw18_alive.f k).bind fun t344 => (if t344 = true then (if a0 < 1 then (cartridgelaw18_ListingNext.j0 k a0 a1 a2 t344 true) else (if a0 > 20 then (cartridgelaw18_ListingNext.j0 k a0 a1 a2 t344 true) else (if a1 < 1 then (cartridgelaw18_ListingNext.j0 k a0 a1 a2 t344 true) else (cartridgelaw18_ListingNext.j0 k a0 a1 a2 t344 (decide (a1 > 20)))))) else (cartridgelaw18_ListingNext.j0 k a0 a1 a2 t344 true))
theorem cartridgelaw18_ListingNext.mono_l : ∀ k, (∀ y0 y1 y2 y3 y4, LeO (cartridgelaw18_ListingNext.j0 k y0 y1 y2 y3 y4) (cartridgelaw18_ListingNext.j0 (k + 1) y0 y1 y2 y3 y4)) ∧ (∀ y0 y1 y2 y3 y4, LeO (cartridgelaw18_ListingNext.l0 k y0 y1 y2 y3 y4) (cartridgelaw18_ListingNext.l0 (k + 1) y0 y1 y2 y3 y4)) ∧ (∀ y0 y1 y2 y3 y4, LeO (cartridgelaw18_ListingNext.l1 k y0 y1 y2 y3 y4) (cartridgelaw18_ListingNext.l1 (k + 1) y0 y1 y2 y3 y4)) ∧ (∀ y0 y1 y2 y3 y4 y5 y6, LeO (cartridgelaw18_ListingNext.j3 k y0 y1 y2 y3 y4 y5 y6) (cartridgelaw18_ListingNext.j3 (k + 1) y0 y1 y2 y3 y4 y5 y6)) ∧ (∀ y0 y1 y2 y3 y4 y5 y6 y7, LeO (cartridgelaw18_ListingNext.j4 k y0 y1 y2 y3 y4 y5 y6 y7) (cartridgelaw18_ListingNext.j4 (k + 1) y0 y1 y2 y3 y4 y5 y6 y7))
  | 0 => ⟨fun _ _ _ _ _ r h => by simp [cartridgelaw18_ListingNext.j0] at h, fun _ _ _ _ _ r h => by simp [cartridgelaw18_ListingNext.l0] at h, fun _ _ _ _ _ r h => by simp [cartridgelaw18_ListingNext.l1] at h, fun _ _ _ _ _ _ _ r h => by simp [cartridgelaw18_ListingNext.j3] at h, fun _ _ _ _ _ _ _ _ r h => by simp [cartridgelaw18_ListingNext.j4] at h⟩
  | k + 1 => by
    obtain ⟨ih0, ih1, ih2, ih3, ih4⟩ := cartridgelaw18_ListingNext.mono_l k
    refine ⟨?_, ?_, ?_, ?_, ?_⟩
    · intro y0 y1 y2 y3 y4
      unfold cartridgelaw18_ListingNext.j0
      repeat' first
      | (with_reducible exact ih0 _ _ _ _ _)
      | (with_reducible exact ih1 _ _ _ _ _)
      | (with_reducible exact ih2 _ _ _ _ _)
      | (with_reducible exact ih3 _ _ _ _ _ _ _)
      | (with_reducible exact ih4 _ _ _ _ _ _ _ _)
      | (with_reducible exact cartridgelaw18_alive.mono _)
      | (with_reducible exact listing_Get.mono _ _ _ _)
      | (with_reducible exact listing_Names.mono _ _)
      | (with_reducible exact listing_Newest.mono _ _ _)
      | (with_reducible exact listing_Next.mono _ _ _)
      | (with_reducible exact listing_Serial.mono _ _)
      | (with_reducible exact LeO.refl _)
      | (with_reducible exact LeO.none _)
      | (with_reducible refine LeO.ite ?_ ?_)
      | (with_reducible refine LeO.bind ?_ (fun _ => ?_))
      | exact ih0 _ _ _ _ _
      | exact ih1 _ _ _ _ _
      | exact ih2 _ _ _ _ _
      | exact ih3 _ _ _ _ _ _ _
      | exact ih4 _ _ _ _ _ _ _ _
      | exact cartridgelaw18_alive.mono _
      | exact listing_Get.mono _ _ _ _
      | exact listing_Names.mono _ _
      | exact listing_Newest.mono _ _ _
      | exact listing_Next.mono _ _ _
      | exact listing_Serial.mono _ _
      | exact LeO.none _
      | refine LeO.ite ?_ ?_
      | refine LeO.bind ?_ (fun _ => ?_)
    · intro y0 y1 y2 y3 y4
      unfold cartridgelaw18_ListingNext.l0
      repeat' first
      | (with_reducible exact ih0 _ _ _ _ _)
      | (with_reducible exact ih1 _ _ _ _ _)
      | (with_reducible exact ih2 _ _ _ _ _)
      | (with_reducible exact ih3 _ _ _ _ _ _ _)
      | (with_reducible exact ih4 _ _ _ _ _ _ _ _)
      | (with_reducible exact cartridgelaw18_alive.mono _)
      | (with_reducible exact listing_Get.mono _ _ _ _)
      | (with_reducible exact listing_Names.mono _ _)
      | (with_reducible exact listing_Newest.mono _ _ _)
      | (with_reducible exact listing_Next.mono _ _ _)
      | (with_reducible exact listing_Serial.mono _ _)
      | (with_reducible exact LeO.refl _)
      | (with_reducible exact LeO.none _)
      | (with_reducible refine LeO.ite ?_ ?_)
      | (with_reducible refine LeO.bind ?_ (fun _ => ?_))
      | exact ih0 _ _ _ _ _
      | exact ih1 _ _ _ _ _
      | exact ih2 _ _ _ _ _
      | exact ih3 _ _ _ _ _ _ _
      | exact ih4 _ _ _ _ _ _ _ _
      | exact cartridgelaw18_alive.mono _
      | exact listing_Get.mono _ _ _ _
      | exact listing_Names.mono _ _
      | exact listing_Newest.mono _ _ _
      | exact listing_Next.mono _ _ _
      | exact listing_Serial.mono _ _
      | exact LeO.none _
      | refine LeO.ite ?_ ?_
      | refine LeO.bind ?_ (fun _ => ?_)
    · intro y0 y1 y2 y3 y4
      unfold cartridgelaw18_ListingNext.l1
      repeat' first
      | (with_reducible exact ih0 _ _ _ _ _)
      | (with_reducible exact ih1 _ _ _ _ _)
      | (with_reducible exact ih2 _ _ _ _ _)
      | (with_reducible exact ih3 _ _ _ _ _ _ _)
      | (with_reducible exact ih4 _ _ _ _ _ _ _ _)
      | (with_reducible exact cartridgelaw18_alive.mono _)
      | (with_reducible exact listing_Get.mono _ _ _ _)
      | (with_reducible exact listing_Names.mono _ _)
      | (with_reducible exact listing_Newest.mono _ _ _)
      | (with_reducible exact listing_Next.mono _ _ _)
      | (with_reducible exact listing_Serial.mono _ _)
      | (with_reducible exact LeO.refl _)
      | (with_reducible exact LeO.none _)
      | (with_reducible refine LeO.ite ?_ ?_)
      | (with_reducible refine LeO.bind ?_ (fun _ => ?_))
      | exact ih0 _ _ _ _ _
      | exact ih1 _ _ _ _ _
      | exact ih2 _ _ _ _ _
      | exact ih3 _ _ _ _ _ _ _
      | exact ih4 _ _ _ _ _ _ _ _
      | exact cartridgelaw18_alive.mono _
      | exact listing_Get.mono _ _ _ _
      | exact listing_Names.mono _ _
      | exact listing_Newest.mono _ _ _
      | exact listing_Next.mono _ _ _
      | exact listing_Serial.mono _ _
      | exact LeO.none _
      | refine LeO.ite ?_ ?_
      | refine LeO.bind ?_ (fun _ => ?_)
    · intro y0 y1 y2 y3 y4 y5 y6
      unfold cartridgelaw18_ListingNext.j3
      repeat' first
      | (with_reducible exact ih0 _ _ _ _ _)
      | (with_reducible exact ih1 _ _ _ _ _)
      | (with_reducible exact ih2 _ _ _ _ _)
      | (with_reducible exact ih3 _ _ _ _ _ _ _)
      | (with_reducible exact ih4 _ _ _ _ _ _ _ _)
      | (with_reducible exact cartridgelaw18_alive.mono _)
      | (with_reducible exact listing_Get.mono _ _ _ _)
      | (with_reducible exact listing_Names.mono _ _)
      | (with_reducible exact listing_Newest.mono _ _ _)
      | (with_reducible exact listing_Next.mono _ _ _)
      | (with_reducible exact listing_Serial.mono _ _)
      | (with_reducible exact LeO.refl _)
      | (with_reducible exact LeO.none _)
      | (with_reducible refine LeO.ite ?_ ?_)
      | (with_reducible refine LeO.bind ?_ (fun _ => ?_))
      | exact ih0 _ _ _ _ _
      | exact ih1 _ _ _ _ _
      | exact ih2 _ _ _ _ _
      | exact ih3 _ _ _ _ _ _ _
      | exact ih4 _ _ _ _ _ _ _ _
      | exact cartridgelaw18_alive.mono _
      | exact listing_Get.mono _ _ _ _
      | exact listing_Names.mono _ _
      | exact listing_Newest.mono _ _ _
      | exact listing_Next.mono _ _ _
      | exact listing_Serial.mono _ _
      | exact LeO.none _
      | refine LeO.ite ?_ ?_
      | refine LeO.bind ?_ (fun _ => ?_)
    · intro y0 y1 y2 y3 y4 y5 y6 y7
      unfold cartridgelaw18_ListingNext.j4
      repeat' first
      | (with_reducible exact ih0 _ _ _ _ _)
      | (with_reducible exact ih1 _ _ _ _ _)
      | (with_reducible exact ih2 _ _ _ _ _)
      | (with_reducible exact ih3 _ _ _ _ _ _ _)
      | (with_reducible exact ih4 _ _ _ _ _ _ _ _)
      | (with_reducible exact cartridgelaw18_alive.mono _)
      | (with_reducible exact listing_Get.mono _ _ _ _)
      | (with_reducible exact listing_Names.mono _ _)
      | (with_reducible exact listing_Newest.mono _ _ _)
      | (with_reducible exact listing_Next.mono _ _ _)
      | (with_reducible exact listing_Serial.mono _ _)
      | (with_reducible exact LeO.refl _)
      | (with_reducible exact LeO.none _)
      | (with_reducible refine LeO.ite ?_ ?_)
      | (with_reducible refine LeO.bind ?_ (fun _ => ?_))
      | exact ih0 _ _ _ _ _
      | exact ih1 _ _ _ _ _
      | exact ih2 _ _ _ _ _
      | exact ih3 _ _ _ _ _ _ _
      | exact ih4 _ _ _ _ _ _ _ _
      | exact cartridgelaw18_alive.mono _
      | exact listing_Get.mono _ _ _ _
      | exact listing_Names.mono _ _
      | exact listing_Newest.mono _ _ _
      | exact listing_Next.mono _ _ _
      | exact listing_Serial.mono _ _
      | exact LeO.none _
      | refine LeO.ite ?_ ?_
      | refine LeO.bind ?_ (fun _ => ?_)
theorem cartridgelaw18_ListingNext.mono : ∀ a0 a1 a2 k, LeO (cartridgelaw18_ListingNext.f k a0 a1 a2) (cartridgelaw18_ListingNext.f (k + 1) a0 a1 a2) := by
  intro a0 a1 a2 k
  obtain ⟨ih0, ih1, ih2, ih3, ih4⟩ := cartridgelaw18_ListingNext.mono_l k
  unfold cartridgelaw18_ListingNext.f
  repeat' first
      | (with_reducible exact ih0 _ _ _ _ _)
      | (with_reducible exact ih1 _ _ _ _ _)
      | (with_reducible exact ih2 _ _ _ _ _)
      | (with_reducible exact ih3 _ _ _ _ _ _ _)
      | (with_reducible exact ih4 _ _ _ _ _ _ _ _)
      | (with_reducible exact cartridgelaw18_alive.mono _)
      | (with_reducible exact listing_Get.mono _ _ _ _)
      | (with_reducible exact listing_Names.mono _ _)
      | (with_reducible exact listing_Newest.mono _ _ _)
      | (with_reducible exact listing_Next.mono _ _ _)
      | (with_reducible exact listing_Serial.mono _ _)
      | (with_reducible exact LeO.refl _)
      | (with_reducible exact LeO.none _)
      | (with_reducible refine LeO.ite ?_ ?_)
      | (with_reducible refine LeO.bind ?_ (fun _ => ?_))
      | exact ih0 _ _ _ _ _
      | exact ih1 _ _ _ _ _
      | exact ih2 _ _ _ _ _
      | exact ih3 _ _ _ _ _ _ _
      | exact ih4 _ _ _ _ _ _ _ _
      | exact cartridgelaw18_alive.mono _
      | exact listing_Get.mono _ _ _ _
      | exact listing_Names.mono _ _
      | exact listing_Newest.mono _ _ _
      | exact listing_Next.mono _ _ _
      | exact listing_Serial.mono _ _
      | exact LeO.none _
      | refine LeO.ite ?_ ?_
      | refine LeO.bind ?_ (fun _ => ?_)
set_option maxHeartbeats 100000000 in
set_option maxRecDepth 100000 in
theorem cartridgelaw18_ListingNext.calls (k : Nat) (a0 : Int) (a1 : Int) (a2 : Bool) (r : Bool) (w : World) (h : cartridgelaw18_ListingNext.f k a0 a1 a2 = some r) :
    Calls Try.prog 5 #[.int .i64 a0, .int .i64 a1, .bool a2] w fun e w' => e = .returned (.bool r) ∧ Below w.heap.size w w' := by
  have hu28 := Try.underlying28
  have HB := Aside0.mk (Below.refl w.heap.size w)
  have H : ((cartridgelaw18_alive.f k).bind fun t344 => (if t344 = true then (if a0 < 1 then (cartridgelaw18_ListingNext.j0 k a0 a1 a2 t344 true) else (if a0 > 20 then (cartridgelaw18_ListingNext.j0 k a0 a1 a2 t344 true) else (if a1 < 1 then (cartridgelaw18_ListingNext.j0 k a0 a1 a2 t344 true) else (cartridgelaw18_ListingNext.j0 k a0 a1 a2 t344 (decide (a1 > 20)))))) else (cartridgelaw18_ListingNext.j0 k a0 a1 a2 t344 true))) = some r := h
  clear h
  replace H := Option.bind_eq_some_iff.mp H
  obtain ⟨t344, A40, H⟩ := H
  replace H : (if t344 = true then (if a0 < 1 then (cartridgelaw18_ListingNext.j0 k a0 a1 a2 t344 true) else (if a0 > 20 then (cartridgelaw18_ListingNext.j0 k a0 a1 a2 t344 true) else (if a1 < 1 then (cartridgelaw18_ListingNext.j0 k a0 a1 a2 t344 true) else (cartridgelaw18_ListingNext.j0 k a0 a1 a2 t344 (decide (a1 > 20)))))) else (cartridgelaw18_ListingNext.j0 k a0 a1 a2 t344 true)) = some r := H
  have A4 := Aside0.mk A40
  clear A40
  have HC5 := Aside0.mk H
  clear H
  go_enter Try.func5, Try.ntmps5
  go_upto_region 2 with (first | ((with_reducible refine gate_callee (f := 6) rfl ?_); refine goesL_ (some 17) rfl rfl Try.func6 (by kernel_rfl) rfl #[] rfl (by (try simp only [List.map_toArray, List.map_cons, List.map_nil]); first | done | rfl | (simp only [List.length_drop, List.length_take]; rfl)) ?_; (with_reducible refine (cartridgelaw18_alive.calls k  t344 _ A4.out).mono ?_); rintro e w6 ⟨rfl, hb⟩; refine ⟨_, rfl, ?_⟩; have n0_ := Aside0.mk (below_step (by repeat (first | (with_reducible first | exact HB.out | apply below_alloc | apply pw_below_drewN | apply below_drew1) | exact HB.out)) hb); clear HB; have HB := n0_; clear n0_; (try clear hb); (try clear hb2); (try clear hk); (try clear hi)))
  (try simp only [Act.put, List.setIfInBounds_toArray, List.set_cons_zero, List.set_cons_succ])
  go_cut [35] (fun v35 wc => ∃ (kq : Nat) (x35_4 : Bool), v35 = .bool x35_4 ∧ Aside0 (cartridgelaw18_ListingNext.j0 kq a0 a1 a2 t344 x35_4 = some r) ∧ Aside0 (kq ≤ k) ∧ Aside0 (Below w.heap.size w wc))
  case first =>
    have H := HC5.out
    clear HC5
    by_cases c7 : t344 = true
    · subst c7
      have H1 : (if a0 < 1 then (cartridgelaw18_ListingNext.j0 k a0 a1 a2 true true) else (if a0 > 20 then (cartridgelaw18_ListingNext.j0 k a0 a1 a2 true true) else (if a1 < 1 then (cartridgelaw18_ListingNext.j0 k a0 a1 a2 true true) else (cartridgelaw18_ListingNext.j0 k a0 a1 a2 true (decide (a1 > 20)))))) = some r := by rw [if_pos rfl] at H; exact H
      clear H
      have H := H1
      clear H1
      by_cases c8 : a0 < 1
      · rw [if_pos c8] at H
        have c8b0 : decide (a0 < 1) = true := decide_eq_true c8
        clear c8
        (first | rw [c8b0] | (simp only [i64_w, i32_w]; rw [c8b0]) | skip)
        have H' := Aside0.mk H
        clear H
        go_wp2
        go_meet
        case rel => exact ⟨_, (true), (by first | rfl | (simp; done) | (simp [*]; done)), H', ⟨by first | omega | exact Nat.le_refl _⟩, ⟨by repeat (first | (with_reducible first | exact HB.out | apply below_alloc | apply pw_below_drewN | apply below_drew1) | exact HB.out)⟩⟩
      · rw [if_neg c8] at H
        have c8b0 : decide (a0 < 1) = false := decide_eq_false c8
        clear c8
        (first | rw [c8b0] | (simp only [i64_w, i32_w]; rw [c8b0]) | skip)
        by_cases c9 : a0 > 20
        · rw [if_pos c9] at H
          have c9b0 : decide (20 < a0) = true := decide_eq_true c9
          clear c9
          have H' := Aside0.mk H
          clear H
          go_wp2
          go_meet
          case rel => exact ⟨_, (true), (by first | rfl | (simp; done) | (simp [*]; done)), H', ⟨by first | omega | exact Nat.le_refl _⟩, ⟨by repeat (first | (with_reducible first | exact HB.out | apply below_alloc | apply pw_below_drewN | apply below_drew1) | exact HB.out)⟩⟩
        · rw [if_neg c9] at H
          have c9b0 : decide (20 < a0) = false := decide_eq_false c9
          clear c9
          by_cases c10 : a1 < 1
          · rw [if_pos c10] at H
            have c10b0 : decide (a1 < 1) = true := decide_eq_true c10
            clear c10
            have H' := Aside0.mk H
            clear H
            go_wp2
            go_meet
            case rel => exact ⟨_, (true), (by first | rfl | (simp; done) | (simp [*]; done)), H', ⟨by first | omega | exact Nat.le_refl _⟩, ⟨by repeat (first | (with_reducible first | exact HB.out | apply below_alloc | apply pw_below_drewN | apply below_drew1) | exact HB.out)⟩⟩
          · rw [if_neg c10] at H
            have c10b0 : decide (a1 < 1) = false := decide_eq_false c10
            clear c10
            have H' := Aside0.mk H
            clear H
            go_wp2
            go_meet
            case rel => exact ⟨_, (decide (a1 > 20)), (by first | rfl | (simp; done) | (simp [*]; done)), H', ⟨by first | omega | exact Nat.le_refl _⟩, ⟨by repeat (first | (with_reducible first | exact HB.out | apply below_alloc | apply pw_below_drewN | apply below_drew1) | exact HB.out)⟩⟩
    · replace c7 := Bool.eq_false_iff.mpr c7
      subst c7
      have H1 : (cartridgelaw18_ListingNext.j0 k a0 a1 a2 false true) = some r := by rw [if_neg (show ¬ (false = true) by decide)] at H; exact H
      clear H
      have H := H1
      clear H1
      have H' := Aside0.mk H
      clear H
      go_wp2
      go_meet
      case rel => exact ⟨_, (true), (by first | rfl | (simp; done) | (simp [*]; done)), H', ⟨by first | omega | exact Nat.le_refl _⟩, ⟨by repeat (first | (with_reducible first | exact HB.out | apply below_alloc | apply pw_below_drewN | apply below_drew1) | exact HB.out)⟩⟩
  case rest =>
    clear HC5
    try clear c1
    try clear p2
    try clear c5
    try clear c6
    try clear c7
    try clear c8
    try clear c8b0
    try clear c9
    try clear c9b0
    try clear c10
    try clear c10b0
    obtain ⟨kq, x35_4, rfl, HA, HJ4, HB⟩ := hcut
    cases kq with
    | zero => exact absurd HA.out (by simp [cartridgelaw18_ListingNext.j0])
    | succ kj4 =>
      have H := HA.out
      clear HA
      simp only [cartridgelaw18_ListingNext.j0] at H
      by_cases c11 : x35_4 = true
      · subst c11
        have H1 : (some t344) = some r := by rw [if_pos rfl] at H; exact H
        clear H
        have H := H1
        clear H1
        obtain rfl := Option.some.inj H
        go_wp2
        go_ret
        exact ⟨by first | rfl | (simp [errW_none, errW_some] <;> rfl) | (simp [*, errW_none, errW_some] <;> rfl), by repeat (first | (with_reducible first | exact HB.out | apply below_alloc | apply pw_below_drewN | apply below_drew1) | exact HB.out)⟩
      · replace c11 := Bool.eq_false_iff.mpr c11
        subst c11
        have H1 : (cartridgelaw18_ListingNext.l0 kj4 a0 a1 a2 ([] : List (S28)) 0) = some r := by rw [if_neg (show ¬ (false = true) by decide)] at H; exact H
        clear H
        have H := H1
        clear H1
        have H' := Aside0.mk H
        clear H
        go_wp2
        go_loopg [8, 9] kj4 (fun kq v8 v9 w' => ∃ (x8_2 : List (S28)) (x9_2 : Int), v9 = .int .i64 x9_2 ∧ Aside0 (cartridgelaw18_ListingNext.l0 kq a0 a1 a2 x8_2 x9_2 = some r) ∧ Aside0 (kq ≤ kj4) ∧ Aside0 (Kd.S k28 28 w' w.heap.size (fun _ => True) v8 x8_2) ∧ Aside0 (Below w.heap.size w w'))
        case atStart => exact ⟨(([] : List (S28))), (0), (by first | rfl | (simp; done) | (simp [*]; done)), H', ⟨Nat.le_refl _⟩, ⟨by first | exact Kd.S_nil _ _ _ _ _ | exact Kd.N_nil _ _ _ _ _ | exact Kd.V_nil _ _ _ _ _ | exact Kd.Q_nil _ _ _ _ _ | exact Kd.R_nil _ _ _ _ _⟩, ⟨by repeat (first | (with_reducible first | exact HB.out | apply below_alloc | apply pw_below_drewN | apply below_drew1) | exact HB.out)⟩⟩
        case round =>
          clear H'
          try clear c1
          try clear p2
          try clear c5
          try clear c6
          try clear c7
          try clear c8
          try clear c8b0
          try clear c9
          try clear c9b0
          try clear c10
          try clear c10b0
          try clear c11
          try clear p2
          obtain ⟨x8_2, x9_2, rfl, HA, HK2, HO_8, HB⟩ := hrel
          cases gk with
          | zero => exact absurd HA.out (by simp [cartridgelaw18_ListingNext.l0])
          | succ k2 =>
            have H := HA.out
            clear HA
            simp only [cartridgelaw18_ListingNext.l0] at H
            by_cases c12 : x9_2 < a0
            · rw [if_pos c12] at H
              have c12b0 : decide (x9_2 < a0) = true := decide_eq_true c12
              clear c12
              by_cases c13 : a2 = true
              · subst c13
                have H1 : (if x8_2.length < 1759218604441 then (cartridgelaw18_ListingNext.l0 k2 a0 a1 true (x8_2 ++ [(⟨(⟨#[97]⟩ : ByteArray), wrap64 (x9_2 + 1), 0, 0, wrap64 ((wrap64 (2 * x9_2)) + 1), (x9_2 == (wrap64 (a0 - 1))), ([] : List (S47))⟩ : S28)]) (wrap64 (x9_2 + 1))) else (none)) = some r := by rw [if_pos rfl] at H; exact H
                clear H
                have H := H1
                clear H1
                by_cases c14 : x8_2.length < 1759218604441
                · rw [if_pos c14] at H
                  have LMc14 := Aside0.mk c14
                  clear c14
                  obtain ⟨y345, hy345⟩ : ∃ y_ : List (S28), y_ = (x8_2 ++ [(⟨(⟨#[97]⟩ : ByteArray), wrap64 (x9_2 + 1), 0, 0, wrap64 ((wrap64 (2 * x9_2)) + 1), (x9_2 == (wrap64 (a0 - 1))), ([] : List (S47))⟩ : S28)]) := ⟨_, rfl⟩
                  replace H : (cartridgelaw18_ListingNext.l0 k2 a0 a1 true y345 (wrap64 (x9_2 + 1))) = some r := by first | (rw [hy345]; with_reducible exact H) | (have H2_ := (Option.bind_some _ _).symm.trans H; rw [hy345]; with_reducible exact H2_) | (have H2_ := (Option.bind_some _ _).symm.trans H; with_reducible exact H2_) | with_reducible exact H | (rw [hy345]; exact H) | exact H
                  have Ny345 := Aside0.mk hy345
                  clear hy345
                  have H' := Aside0.mk H
                  clear H
                  go_wp2_with (first | ((with_reducible refine gate_builtin (b := .append) (xs := #[.tmp 42, .tmp 56]) rfl ?_); (try (refine gate_guard (by rfl) ?_; dsimp only)); at_builtin; refine Kd.S_append k28 (w0 := w) w.heap.size rfl (.tmp 42) (.tmp 56) 22 28 (.agg #[(.string ⟨#[]⟩), (.int .i64 0), (.int .i64 0), (.int .i64 0), (.int .i64 0), (.bool false), (.slice none 0 0)]) 80 rfl Try.underlying22 info28 rfl (by decide) (by omega) u8 x8_2 (⟨(⟨#[97]⟩ : ByteArray), wrap64 (x9_2 + 1), 0, 0, wrap64 ((wrap64 (2 * x9_2)) + 1), (x9_2 == (wrap64 (a0 - 1))), ([] : List (S47))⟩ : S28) [.string (⟨#[97]⟩ : ByteArray), .int .i64 (wrap64 (x9_2 + 1)), .int .i64 0, .int .i64 0, .int .i64 (wrap64 ((wrap64 (2 * x9_2)) + 1)), .bool (x9_2 == (wrap64 (a0 - 1))), .slice none 0 0] (fun _ => True) (fun _ => False) rfl rfl ?aP (fun k_ hk_ => hk_.elim) ?aF ?aO ?aB ?aS ?aL ?_; (case aP => exact k28_mkM _ _ _ (⟨(⟨#[97]⟩ : ByteArray), wrap64 (x9_2 + 1), 0, 0, wrap64 ((wrap64 (2 * x9_2)) + 1), (x9_2 == (wrap64 (a0 - 1))), ([] : List (S47))⟩ : S28) (Kd.R_nil _ _ _ _ _)); (case aB => exact (by repeat (first | (with_reducible first | exact HB.out | apply below_alloc | apply pw_below_drewN | apply below_drew1) | exact HB.out))); (case aF => exact (fun _ _ => trivial)); (case aO => exact (by (with_reducible repeat (first | apply Kd.S_alloc | apply Kd.S_drewN | apply Kd.S_drew)); exact Kd.S_mono HO_8.out (fun k_ hk => ⟨trivial, fun e_ => e_⟩))); (case aS => exact (below_size (by repeat (first | (with_reducible first | exact HB.out | apply below_alloc | apply pw_below_drewN | apply below_drew1) | exact HB.out)))); (case aL => have := LMc14.out; omega); intro v346 w15 ho hb hg hat; rw [← Ny345.out] at ho; have n0_ := Aside0.mk (hb); have n1_ := Aside0.mk (ho); clear HB; clear HO_8; have HB := n0_; have HO347 := n1_; clear n0_ n1_; clear ho hb hg hat))
                  go_roundg k2
                  case measure => have := HJ4.out; have := HK2.out; omega
                  case rel => exact ⟨(y345), (wrap64 (x9_2 + 1)), (by first | rfl | (simp; done) | (simp [*]; done)), H', ⟨by have := HJ4.out; have := HK2.out; omega⟩, ⟨by (with_reducible repeat (first | apply Kd.S_alloc | apply Kd.S_drewN | apply Kd.S_drew)); exact HO347.out⟩, ⟨by repeat (first | (with_reducible first | exact HB.out | apply below_alloc | apply pw_below_drewN | apply below_drew1) | exact HB.out)⟩⟩
                · rw [if_neg c14] at H
                  exact absurd H (by simp)
              · replace c13 := Bool.eq_false_iff.mpr c13
                subst c13
                have H1 : (if x8_2.length < 1759218604441 then (cartridgelaw18_ListingNext.l0 k2 a0 a1 false (x8_2 ++ [(⟨(⟨#[97]⟩ : ByteArray), wrap64 (x9_2 + 1), 0, 0, wrap64 ((wrap64 (2 * x9_2)) + 1), false, ([] : List (S47))⟩ : S28)]) (wrap64 (x9_2 + 1))) else (none)) = some r := by rw [if_neg (show ¬ (false = true) by decide)] at H; exact H
                clear H
                have H := H1
                clear H1
                by_cases c16 : x8_2.length < 1759218604441
                · rw [if_pos c16] at H
                  have LMc16 := Aside0.mk c16
                  clear c16
                  obtain ⟨y348, hy348⟩ : ∃ y_ : List (S28), y_ = (x8_2 ++ [(⟨(⟨#[97]⟩ : ByteArray), wrap64 (x9_2 + 1), 0, 0, wrap64 ((wrap64 (2 * x9_2)) + 1), false, ([] : List (S47))⟩ : S28)]) := ⟨_, rfl⟩
                  replace H : (cartridgelaw18_ListingNext.l0 k2 a0 a1 false y348 (wrap64 (x9_2 + 1))) = some r := by first | (rw [hy348]; with_reducible exact H) | (have H2_ := (Option.bind_some _ _).symm.trans H; rw [hy348]; with_reducible exact H2_) | (have H2_ := (Option.bind_some _ _).symm.trans H; with_reducible exact H2_) | with_reducible exact H | (rw [hy348]; exact H) | exact H
                  have Ny348 := Aside0.mk hy348
                  clear hy348
                  have H' := Aside0.mk H
                  clear H
                  go_wp2_with (first | ((with_reducible refine gate_builtin (b := .append) (xs := #[.tmp 42, .tmp 56]) rfl ?_); (try (refine gate_guard (by rfl) ?_; dsimp only)); at_builtin; refine Kd.S_append k28 (w0 := w) w.heap.size rfl (.tmp 42) (.tmp 56) 22 28 (.agg #[(.string ⟨#[]⟩), (.int .i64 0), (.int .i64 0), (.int .i64 0), (.int .i64 0), (.bool false), (.slice none 0 0)]) 80 rfl Try.underlying22 info28 rfl (by decide) (by omega) u8 x8_2 (⟨(⟨#[97]⟩ : ByteArray), wrap64 (x9_2 + 1), 0, 0, wrap64 ((wrap64 (2 * x9_2)) + 1), false, ([] : List (S47))⟩ : S28) [.string (⟨#[97]⟩ : ByteArray), .int .i64 (wrap64 (x9_2 + 1)), .int .i64 0, .int .i64 0, .int .i64 (wrap64 ((wrap64 (2 * x9_2)) + 1)), .bool false, .slice none 0 0] (fun _ => True) (fun _ => False) rfl rfl ?aP (fun k_ hk_ => hk_.elim) ?aF ?aO ?aB ?aS ?aL ?_; (case aP => exact k28_mkM _ _ _ (⟨(⟨#[97]⟩ : ByteArray), wrap64 (x9_2 + 1), 0, 0, wrap64 ((wrap64 (2 * x9_2)) + 1), false, ([] : List (S47))⟩ : S28) (Kd.R_nil _ _ _ _ _)); (case aB => exact (by repeat (first | (with_reducible first | exact HB.out | apply below_alloc | apply pw_below_drewN | apply below_drew1) | exact HB.out))); (case aF => exact (fun _ _ => trivial)); (case aO => exact (by (with_reducible repeat (first | apply Kd.S_alloc | apply Kd.S_drewN | apply Kd.S_drew)); exact Kd.S_mono HO_8.out (fun k_ hk => ⟨trivial, fun e_ => e_⟩))); (case aS => exact (below_size (by repeat (first | (with_reducible first | exact HB.out | apply below_alloc | apply pw_below_drewN | apply below_drew1) | exact HB.out)))); (case aL => have := LMc16.out; omega); intro v349 w17 ho hb hg hat; rw [← Ny348.out] at ho; have n0_ := Aside0.mk (hb); have n1_ := Aside0.mk (ho); clear HB; clear HO_8; have HB := n0_; have HO350 := n1_; clear n0_ n1_; clear ho hb hg hat))
                  go_roundg k2
                  case measure => have := HJ4.out; have := HK2.out; omega
                  case rel => exact ⟨(y348), (wrap64 (x9_2 + 1)), (by first | rfl | (simp; done) | (simp [*]; done)), H', ⟨by have := HJ4.out; have := HK2.out; omega⟩, ⟨by (with_reducible repeat (first | apply Kd.S_alloc | apply Kd.S_drewN | apply Kd.S_drew)); exact HO350.out⟩, ⟨by repeat (first | (with_reducible first | exact HB.out | apply below_alloc | apply pw_below_drewN | apply below_drew1) | exact HB.out)⟩⟩
                · rw [if_neg c16] at H
                  exact absurd H (by simp)
            · rw [if_neg c12] at H
              have c12b0 : decide (x9_2 < a0) = false := decide_eq_false c12
              clear c12
              have H' := Aside0.mk H
              clear H
              go_wp2
              go_loopg [8, 10] k2 (fun kq v8 v10 w' => ∃ (x8_3 : List (S28)) (x10_3 : Int), v10 = .int .i64 x10_3 ∧ Aside0 (cartridgelaw18_ListingNext.l1 kq a0 a1 a2 x8_3 x10_3 = some r) ∧ Aside0 (kq ≤ k2) ∧ Aside0 (Kd.S k28 28 w' w.heap.size (fun _ => True) v8 x8_3) ∧ Aside0 (Below w.heap.size w w'))
              case atStart => exact ⟨(x8_2), (0), (by first | rfl | (simp; done) | (simp [*]; done)), H', ⟨Nat.le_refl _⟩, ⟨by (with_reducible repeat (first | apply Kd.S_alloc | apply Kd.S_drewN | apply Kd.S_drew)); exact HO_8.out⟩, ⟨by repeat (first | (with_reducible first | exact HB.out | apply below_alloc | apply pw_below_drewN | apply below_drew1) | exact HB.out)⟩⟩
              case round =>
                clear H'
                try clear c1
                try clear p2
                try clear c5
                try clear c6
                try clear p6
                try clear c7
                try clear c8
                try clear c8b0
                try clear c9
                try clear c9b0
                try clear c10
                try clear c10b0
                try clear c11
                try clear c12
                try clear c12b0
                try clear c13
                try clear c14
                try clear c16
                try clear p2
                obtain ⟨x8_3, x10_3, rfl, HA, HK3, HO_8, HB⟩ := hrel
                cases gk with
                | zero => exact absurd HA.out (by simp [cartridgelaw18_ListingNext.l1])
                | succ k3 =>
                  have H := HA.out
                  clear HA
                  simp only [cartridgelaw18_ListingNext.l1] at H
                  by_cases c18 : x10_3 < a1
                  · rw [if_pos c18] at H
                    have c18b0 : decide (x10_3 < a1) = true := decide_eq_true c18
                    clear c18
                    by_cases c19 : x8_3.length < 1759218604441
                    · rw [if_pos c19] at H
                      have LMc19 := Aside0.mk c19
                      clear c19
                      obtain ⟨y351, hy351⟩ : ∃ y_ : List (S28), y_ = (x8_3 ++ [(⟨(⟨#[98]⟩ : ByteArray), wrap64 (x10_3 + 1), 0, 0, wrap64 ((wrap64 (2 * x10_3)) + 2), false, ([] : List (S47))⟩ : S28)]) := ⟨_, rfl⟩
                      replace H : (cartridgelaw18_ListingNext.l1 k3 a0 a1 a2 y351 (wrap64 (x10_3 + 1))) = some r := by first | (rw [hy351]; with_reducible exact H) | (have H2_ := (Option.bind_some _ _).symm.trans H; rw [hy351]; with_reducible exact H2_) | (have H2_ := (Option.bind_some _ _).symm.trans H; with_reducible exact H2_) | with_reducible exact H | (rw [hy351]; exact H) | exact H
                      have Ny351 := Aside0.mk hy351
                      clear hy351
                      have H' := Aside0.mk H
                      clear H
                      go_wp2_with (first | ((with_reducible refine gate_builtin (b := .append) (xs := #[.tmp 63, .tmp 70]) rfl ?_); (try (refine gate_guard (by rfl) ?_; dsimp only)); at_builtin; refine Kd.S_append k28 (w0 := w) w.heap.size rfl (.tmp 63) (.tmp 70) 22 28 (.agg #[(.string ⟨#[]⟩), (.int .i64 0), (.int .i64 0), (.int .i64 0), (.int .i64 0), (.bool false), (.slice none 0 0)]) 80 rfl Try.underlying22 info28 rfl (by decide) (by omega) u8 x8_3 (⟨(⟨#[98]⟩ : ByteArray), wrap64 (x10_3 + 1), 0, 0, wrap64 ((wrap64 (2 * x10_3)) + 2), false, ([] : List (S47))⟩ : S28) [.string (⟨#[98]⟩ : ByteArray), .int .i64 (wrap64 (x10_3 + 1)), .int .i64 0, .int .i64 0, .int .i64 (wrap64 ((wrap64 (2 * x10_3)) + 2)), .bool false, .slice none 0 0] (fun _ => True) (fun _ => False) rfl rfl ?aP (fun k_ hk_ => hk_.elim) ?aF ?aO ?aB ?aS ?aL ?_; (case aP => exact k28_mkM _ _ _ (⟨(⟨#[98]⟩ : ByteArray), wrap64 (x10_3 + 1), 0, 0, wrap64 ((wrap64 (2 * x10_3)) + 2), false, ([] : List (S47))⟩ : S28) (Kd.R_nil _ _ _ _ _)); (case aB => exact (by repeat (first | (with_reducible first | exact HB.out | apply below_alloc | apply pw_below_drewN | apply below_drew1) | exact HB.out))); (case aF => exact (fun _ _ => trivial)); (case aO => exact (by (with_reducible repeat (first | apply Kd.S_alloc | apply Kd.S_drewN | apply Kd.S_drew)); exact Kd.S_mono HO_8.out (fun k_ hk => ⟨trivial, fun e_ => e_⟩))); (case aS => exact (below_size (by repeat (first | (with_reducible first | exact HB.out | apply below_alloc | apply pw_below_drewN | apply below_drew1) | exact HB.out)))); (case aL => have := LMc19.out; omega); intro v352 w20 ho hb hg hat; rw [← Ny351.out] at ho; have n0_ := Aside0.mk (hb); have n1_ := Aside0.mk (ho); clear HB; clear HO_8; have HB := n0_; have HO353 := n1_; clear n0_ n1_; clear ho hb hg hat))
                      go_roundg k3
                      case measure => have := HJ4.out; have := HK2.out; have := HK3.out; omega
                      case rel => exact ⟨(y351), (wrap64 (x10_3 + 1)), (by first | rfl | (simp; done) | (simp [*]; done)), H', ⟨by have := HJ4.out; have := HK2.out; have := HK3.out; omega⟩, ⟨by (with_reducible repeat (first | apply Kd.S_alloc | apply Kd.S_drewN | apply Kd.S_drew)); exact HO353.out⟩, ⟨by repeat (first | (with_reducible first | exact HB.out | apply below_alloc | apply pw_below_drewN | apply below_drew1) | exact HB.out)⟩⟩
                    · rw [if_neg c19] at H
                      exact absurd H (by simp)
                  · rw [if_neg c18] at H
                    have c18b0 : decide (x10_3 < a1) = false := decide_eq_false c18
                    clear c18
                    replace H := Option.bind_eq_some_iff.mp H
                    obtain ⟨⟨t354, t355, t356, t357, t358, t359, t360, t363⟩, A210, H⟩ := H
                    replace H : ((listing_Get.f k3 x8_3 (⟨#[97]⟩ : ByteArray) a0).bind fun bt365 => (if a1 ≥ a0 then (cartridgelaw18_ListingNext.j3 k3 a0 a1 a2 x8_3 t363 bt365.2.2.2.2.2.2.2 (wrap64 ((wrap64 (2 * a1)) + 1))) else (cartridgelaw18_ListingNext.j3 k3 a0 a1 a2 x8_3 t363 bt365.2.2.2.2.2.2.2 (wrap64 (2 * a0))))) = some r := H
                    have A21 := Aside0.mk A210
                    clear A210
                    replace H := Option.bind_eq_some_iff.mp H
                    obtain ⟨⟨t365, t366, t367, t368, t369, t370, t371, t374⟩, A220, H⟩ := H
                    replace H : (if a1 ≥ a0 then (cartridgelaw18_ListingNext.j3 k3 a0 a1 a2 x8_3 t363 t374 (wrap64 ((wrap64 (2 * a1)) + 1))) else (cartridgelaw18_ListingNext.j3 k3 a0 a1 a2 x8_3 t363 t374 (wrap64 (2 * a0)))) = some r := H
                    have A22 := Aside0.mk A220
                    clear A220
                    have HC23 := Aside0.mk H
                    clear H
                    obtain ⟨Ao24, co24, eo24⟩ := Kd.S_slice HO_8.out
                    subst eo24
                    go_upto_if 87 with (first | ((with_reducible refine gate_callee (f := 8) rfl ?_); refine goesL_ (some 74) rfl rfl Try.func8 (by kernel_rfl) rfl #[.slice Ao24 x8_3.length co24, .string (⟨#[97]⟩ : ByteArray)] rfl (by (try simp only [List.map_toArray, List.map_cons, List.map_nil]); first | done | rfl | (simp only [List.length_drop, List.length_take]; rfl)) ?_; (with_reducible refine (listing_Newest.calls k3 _ _ x8_3 (⟨#[97]⟩ : ByteArray) t354 t355 t356 t357 t358 t359 t360 t363 _ ?side1 ?side2 A21.out).mono ?_); (case side1 => repeat (first | exact (Kd.S_reads' HO_8.out).2.2 | (with_reducible refine Kd.C_alloc ?_ _) | (with_reducible refine Kd.C_drewN ?_ _) | (with_reducible refine Kd.C_drew ?_))); (case side2 => exact (Kd.S_reads' HO_8.out).2.1); rintro e w25 ⟨v361, rfl, ho0, hb⟩; refine ⟨_, rfl, ?_⟩; have n0_ := Aside0.mk (Kd.S_elder' (by (with_reducible repeat (first | apply Kd.S_alloc | apply Kd.S_drewN | apply Kd.S_drew)); exact HO_8.out) (Kd.R_base ho0) hb); have n1_ := Aside0.mk (Kd.R_lower ho0 (below_size (by repeat (first | (with_reducible first | exact HB.out | apply below_alloc | apply pw_below_drewN | apply below_drew1) | exact HB.out)))); have n2_ := Aside0.mk (below_step (by repeat (first | (with_reducible first | exact HB.out | apply below_alloc | apply pw_below_drewN | apply below_drew1) | exact HB.out)) hb); clear HO_8; clear HB; have HO_8 := n0_; have HO362 := n1_; have HB := n2_; clear n0_ n1_ n2_; (try clear hb); (try clear hb2); (try clear hk); (try clear hi); (try clear ho0)) | ((with_reducible refine gate_dst (N := 11) rfl ?_); (try (refine gate_guard (by rfl) ?_; dsimp only)); refine box_event ?hg (N := 11) ?hd (cs := #[.string (⟨#[]⟩ : ByteArray), .int .i64 0, .int .i64 0, .int .i64 0, .int .i64 0, .bool false, .slice none 0 0]) (t := 28) ?hr ?_; (case hd => rfl); (case hg => rfl); (case hr => first | (go_simp; done) | (go_simp; rfl)); intro gb364 hg w26 hbox hb; have n0_ := Aside0.mk (Kd.S_below (Kd.S_elderB (by (with_reducible repeat (first | apply Kd.S_alloc | apply Kd.S_drewN | apply Kd.S_drew)); exact HO_8.out) gb364 (Nat.le_of_eq hg.symm)) hb); have n1_ := Aside0.mk (Kd.R_below (by (with_reducible repeat (first | apply Kd.R_alloc | apply Kd.R_drewN | apply Kd.R_drew)); exact HO362.out) hb); have n2_ := Aside0.mk (below_step (by repeat (first | (with_reducible first | exact HB.out | apply below_alloc | apply pw_below_drewN | apply below_drew1) | exact HB.out)) hb); have n3_ := Aside0.mk (hbox); have n4_ := Aside0.mk ((by rw [hg]; exact (below_size (by repeat (first | (with_reducible first | exact HB.out | apply below_alloc | apply pw_below_drewN | apply below_drew1) | exact HB.out))) : w.heap.size ≤ gb364)); have n5_ := Aside0.mk ((by rw [hg]; exact (below_size (by repeat (first | (with_reducible first | exact HB.out | apply below_alloc | apply pw_below_drewN | apply below_drew1) | exact HB.out))) : w.heap.size ≤ gb364)); clear HO_8; clear HO362; clear HB; have HO_8 := n0_; have HO362 := n1_; have HB := n2_; have BK364 := n3_; have GW364 := n4_; have GE364 := n5_; clear n0_ n1_ n2_ n3_ n4_ n5_; clear hb hbox hg; have hcz27_0 : w26.cell? ⟨gb364, 0, none⟩ = some (.string (⟨#[]⟩ : ByteArray)) := (blk_cell BK364.out 0).trans rfl; have hcz27_1 : w26.cell? ⟨gb364, 1, none⟩ = some (.int .i64 0) := (blk_cell BK364.out 1).trans rfl; have hcz27_2 : w26.cell? ⟨gb364, 2, none⟩ = some (.int .i64 0) := (blk_cell BK364.out 2).trans rfl; have hcz27_3 : w26.cell? ⟨gb364, 3, none⟩ = some (.int .i64 0) := (blk_cell BK364.out 3).trans rfl; have hcz27_4 : w26.cell? ⟨gb364, 4, none⟩ = some (.int .i64 0) := (blk_cell BK364.out 4).trans rfl; have hcz27_5 : w26.cell? ⟨gb364, 5, none⟩ = some (.bool false) := (blk_cell BK364.out 5).trans rfl; have hcz27_6 : w26.cell? ⟨gb364, 6, none⟩ = some (.slice none 0 0) := (blk_cell BK364.out 6).trans rfl; have hfz27_0 := blk_frozen BK364.out 0; have hfz27_1 := blk_frozen BK364.out 1; have hfz27_2 := blk_frozen BK364.out 2; have hfz27_3 := blk_frozen BK364.out 3; have hfz27_4 := blk_frozen BK364.out 4; have hfz27_5 := blk_frozen BK364.out 5; have hfz27_6 := blk_frozen BK364.out 6; obtain ⟨Ao28, co28, eo28⟩ := Kd.R_slice HO362.out; subst eo28) | ((with_reducible refine gate_callee (f := 10) rfl ?_); refine goesL_ (some 80) rfl rfl Try.func10 (by kernel_rfl) rfl #[.slice Ao24 x8_3.length co24, .string (⟨#[97]⟩ : ByteArray), .int .i64 a0] rfl (by (try simp only [List.map_toArray, List.map_cons, List.map_nil]); first | done | rfl | (simp only [List.length_drop, List.length_take]; rfl)) ?_; (with_reducible refine (listing_Get.calls k3 _ _ x8_3 (⟨#[97]⟩ : ByteArray) a0 t365 t366 t367 t368 t369 t370 t371 t374 _ ?side1 ?side2 A22.out).mono ?_); (case side1 => refine (Kd.S_reads' (e := 28) (base := w.heap.size) (ok := fun k_ => ((True ∧ some k_ ≠ (.slice Ao28 t360.length co28 : Value).ownBlock) ∧ k_ ≠ gb364)) (n := x8_3.length) (c := co24) ?_).2.2; exact (by (with_reducible repeat (first | apply Kd.S_alloc | apply Kd.S_drewN | apply Kd.S_drew)); exact (Kd.S_mono (Kd.S_far (p := ⟨gb364, 6, none⟩) (Kd.S_far (p := ⟨gb364, 5, none⟩) (Kd.S_far (p := ⟨gb364, 4, none⟩) (Kd.S_far (p := ⟨gb364, 3, none⟩) (Kd.S_far (p := ⟨gb364, 2, none⟩) (Kd.S_far (p := ⟨gb364, 1, none⟩) (Kd.S_far (p := ⟨gb364, 0, none⟩) (Kd.S_mono HO_8.out (fun k_ hk => (⟨hk, hk.2⟩ : _ ∧ k_ ≠ gb364))) (fun _ hk => hk.2) (.string t354)) (fun _ hk => hk.2) (.int .i64 t355)) (fun _ hk => hk.2) (.int .i64 t356)) (fun _ hk => hk.2) (.int .i64 t357)) (fun _ hk => hk.2) (.int .i64 t358)) (fun _ hk => hk.2) (.bool t359)) (fun _ hk => hk.2) (.slice Ao28 t360.length co28)) (fun _ h_ => h_.1)))); (case side2 => exact (Kd.S_reads' HO_8.out).2.1); rintro e w29 ⟨v372, rfl, ho0, hb⟩; refine ⟨_, rfl, ?_⟩; have n0_ := Aside0.mk (Kd.S_elder' (by (with_reducible repeat (first | apply Kd.S_alloc | apply Kd.S_drewN | apply Kd.S_drew)); exact (Kd.S_mono (Kd.S_far (p := ⟨gb364, 6, none⟩) (Kd.S_far (p := ⟨gb364, 5, none⟩) (Kd.S_far (p := ⟨gb364, 4, none⟩) (Kd.S_far (p := ⟨gb364, 3, none⟩) (Kd.S_far (p := ⟨gb364, 2, none⟩) (Kd.S_far (p := ⟨gb364, 1, none⟩) (Kd.S_far (p := ⟨gb364, 0, none⟩) (Kd.S_mono HO_8.out (fun k_ hk => (⟨hk, hk.2⟩ : _ ∧ k_ ≠ gb364))) (fun _ hk => hk.2) (.string t354)) (fun _ hk => hk.2) (.int .i64 t355)) (fun _ hk => hk.2) (.int .i64 t356)) (fun _ hk => hk.2) (.int .i64 t357)) (fun _ hk => hk.2) (.int .i64 t358)) (fun _ hk => hk.2) (.bool t359)) (fun _ hk => hk.2) (.slice Ao28 t360.length co28)) (fun _ h_ => h_.1))) (Kd.R_base ho0) hb); have n1_ := Aside0.mk (Kd.R_elder' (by (with_reducible repeat (first | apply Kd.R_alloc | apply Kd.R_drewN | apply Kd.R_drew)); exact (Kd.R_mono (Kd.R_far (p := ⟨gb364, 6, none⟩) (Kd.R_far (p := ⟨gb364, 5, none⟩) (Kd.R_far (p := ⟨gb364, 4, none⟩) (Kd.R_far (p := ⟨gb364, 3, none⟩) (Kd.R_far (p := ⟨gb364, 2, none⟩) (Kd.R_far (p := ⟨gb364, 1, none⟩) (Kd.R_far (p := ⟨gb364, 0, none⟩) (Kd.R_types HO362.out BK364.out (by decide)) (fun _ hk => hk.2) (.string t354)) (fun _ hk => hk.2) (.int .i64 t355)) (fun _ hk => hk.2) (.int .i64 t356)) (fun _ hk => hk.2) (.int .i64 t357)) (fun _ hk => hk.2) (.int .i64 t358)) (fun _ hk => hk.2) (.bool t359)) (fun _ hk => hk.2) (.slice Ao28 t360.length co28)) (fun _ h_ => h_.1))) (Kd.R_base ho0) hb); have n2_ := Aside0.mk (Kd.R_lower (Kd.R_new' ho0 (Kd.R_lt (by (with_reducible repeat (first | apply Kd.R_alloc | apply Kd.R_drewN | apply Kd.R_drew)); exact (Kd.R_mono (Kd.R_far (p := ⟨gb364, 6, none⟩) (Kd.R_far (p := ⟨gb364, 5, none⟩) (Kd.R_far (p := ⟨gb364, 4, none⟩) (Kd.R_far (p := ⟨gb364, 3, none⟩) (Kd.R_far (p := ⟨gb364, 2, none⟩) (Kd.R_far (p := ⟨gb364, 1, none⟩) (Kd.R_far (p := ⟨gb364, 0, none⟩) (Kd.R_types HO362.out BK364.out (by decide)) (fun _ hk => hk.2) (.string t354)) (fun _ hk => hk.2) (.int .i64 t355)) (fun _ hk => hk.2) (.int .i64 t356)) (fun _ hk => hk.2) (.int .i64 t357)) (fun _ hk => hk.2) (.int .i64 t358)) (fun _ hk => hk.2) (.bool t359)) (fun _ hk => hk.2) (.slice Ao28 t360.length co28)) (fun _ h_ => h_.1))))) (below_size (by repeat (first | (with_reducible first | exact HB.out | apply below_alloc | apply pw_below_drewN | apply below_drew1 | refine below_set ?_ GE364.out) | exact HB.out)))); have n3_ := Aside0.mk (blk_below (g := gb364) (o := .cells #[.string t354, .int .i64 t355, .int .i64 t356, .int .i64 t357, .int .i64 t358, .bool t359, .slice Ao28 t360.length co28] 28 (0, 0)) (by (with_reducible repeat (first | refine blk_drewN ?_ _ | refine blk_drew ?_ | refine blk_alloc ?_ _)); refine blk_put (cs := #[.string t354, .int .i64 t355, .int .i64 t356, .int .i64 t357, .int .i64 t358, .bool t359, .slice none 0 0]) ?_ 6 _ rfl; (with_reducible repeat (first | refine blk_drewN ?_ _ | refine blk_drew ?_ | refine blk_alloc ?_ _)); refine blk_put (cs := #[.string t354, .int .i64 t355, .int .i64 t356, .int .i64 t357, .int .i64 t358, .bool false, .slice none 0 0]) ?_ 5 _ rfl; (with_reducible repeat (first | refine blk_drewN ?_ _ | refine blk_drew ?_ | refine blk_alloc ?_ _)); refine blk_put (cs := #[.string t354, .int .i64 t355, .int .i64 t356, .int .i64 t357, .int .i64 0, .bool false, .slice none 0 0]) ?_ 4 _ rfl; (with_reducible repeat (first | refine blk_drewN ?_ _ | refine blk_drew ?_ | refine blk_alloc ?_ _)); refine blk_put (cs := #[.string t354, .int .i64 t355, .int .i64 t356, .int .i64 0, .int .i64 0, .bool false, .slice none 0 0]) ?_ 3 _ rfl; (with_reducible repeat (first | refine blk_drewN ?_ _ | refine blk_drew ?_ | refine blk_alloc ?_ _)); refine blk_put (cs := #[.string t354, .int .i64 t355, .int .i64 0, .int .i64 0, .int .i64 0, .bool false, .slice none 0 0]) ?_ 2 _ rfl; (with_reducible repeat (first | refine blk_drewN ?_ _ | refine blk_drew ?_ | refine blk_alloc ?_ _)); refine blk_put (cs := #[.string t354, .int .i64 0, .int .i64 0, .int .i64 0, .int .i64 0, .bool false, .slice none 0 0]) ?_ 1 _ rfl; (with_reducible repeat (first | refine blk_drewN ?_ _ | refine blk_drew ?_ | refine blk_alloc ?_ _)); refine blk_put (cs := #[.string (⟨#[]⟩ : ByteArray), .int .i64 0, .int .i64 0, .int .i64 0, .int .i64 0, .bool false, .slice none 0 0]) ?_ 0 _ rfl; (with_reducible repeat (first | refine blk_drewN ?_ _ | refine blk_drew ?_ | refine blk_alloc ?_ _)); exact BK364.out) hb); have n4_ := Aside0.mk (below_step (by repeat (first | (with_reducible first | exact HB.out | apply below_alloc | apply pw_below_drewN | apply below_drew1 | refine below_set ?_ GE364.out) | exact HB.out)) hb); clear HO_8; clear HO362; clear BK364; clear HB; have HO_8 := n0_; have HO362 := n1_; have HO373 := n2_; have BK364 := n3_; have HB := n4_; clear n0_ n1_ n2_ n3_ n4_; (try clear hb); (try clear hb2); (try clear hk); (try clear hi); (try clear ho0)) | ((with_reducible refine gate_dst (N := 13) rfl ?_); (try (refine gate_guard (by rfl) ?_; dsimp only)); refine box_event ?hg (N := 13) ?hd (cs := #[.string (⟨#[]⟩ : ByteArray), .int .i64 0, .int .i64 0, .int .i64 0, .int .i64 0, .bool false, .slice none 0 0]) (t := 28) ?hr ?_; (case hd => rfl); (case hg => rfl); (case hr => first | (go_simp; done) | (go_simp; rfl)); intro gb375 hg w30 hbox hb; have n0_ := Aside0.mk (Kd.S_below (Kd.S_elderB (by (with_reducible repeat (first | apply Kd.S_alloc | apply Kd.S_drewN | apply Kd.S_drew)); exact HO_8.out) gb375 (Nat.le_of_eq hg.symm)) hb); have n1_ := Aside0.mk (Kd.R_below (by (with_reducible repeat (first | apply Kd.R_alloc | apply Kd.R_drewN | apply Kd.R_drew)); exact HO362.out) hb); have n2_ := Aside0.mk (Kd.R_below (by (with_reducible repeat (first | apply Kd.R_alloc | apply Kd.R_drewN | apply Kd.R_drew)); exact HO373.out) hb); have n3_ := Aside0.mk (blk_below (g := gb364) (o := .cells #[.string t354, .int .i64 t355, .int .i64 t356, .int .i64 t357, .int .i64 t358, .bool t359, .slice Ao28 t360.length co28] 28 (0, 0)) (by (with_reducible repeat (first | refine blk_drewN ?_ _ | refine blk_drew ?_ | refine blk_alloc ?_ _)); exact BK364.out) hb); have n4_ := Aside0.mk (below_step (by repeat (first | (with_reducible first | exact HB.out | apply below_alloc | apply pw_below_drewN | apply below_drew1 | refine below_set ?_ GE364.out) | exact HB.out)) hb); have n5_ := Aside0.mk (hbox); have n6_ := Aside0.mk ((by rw [hg]; exact (below_size (by repeat (first | (with_reducible first | exact HB.out | apply below_alloc | apply pw_below_drewN | apply below_drew1 | refine below_set ?_ GE364.out) | exact HB.out))) : w.heap.size ≤ gb375)); have n7_ := Aside0.mk ((by rw [hg]; exact (below_size (by repeat (first | (with_reducible first | exact HB.out | apply below_alloc | apply pw_below_drewN | apply below_drew1 | refine below_set ?_ GE364.out) | exact HB.out))) : w.heap.size ≤ gb375)); have n8_ := Aside0.mk ((by rw [hg]; exact Nat.ne_of_lt (blk_lt (g := gb364) (o := .cells #[.string t354, .int .i64 t355, .int .i64 t356, .int .i64 t357, .int .i64 t358, .bool t359, .slice Ao28 t360.length co28] 28 (0, 0)) (by (with_reducible repeat (first | refine blk_drewN ?_ _ | refine blk_drew ?_ | refine blk_alloc ?_ _)); exact BK364.out)) : gb364 ≠ gb375)); have n9_ := Aside0.mk ((by rw [hg]; exact Nat.ne_of_gt (blk_lt (g := gb364) (o := .cells #[.string t354, .int .i64 t355, .int .i64 t356, .int .i64 t357, .int .i64 t358, .bool t359, .slice Ao28 t360.length co28] 28 (0, 0)) (by (with_reducible repeat (first | refine blk_drewN ?_ _ | refine blk_drew ?_ | refine blk_alloc ?_ _)); exact BK364.out)) : gb375 ≠ gb364)); clear HO_8; clear HO362; clear HO373; clear BK364; clear HB; have HO_8 := n0_; have HO362 := n1_; have HO373 := n2_; have BK364 := n3_; have HB := n4_; have BK375 := n5_; have GW375 := n6_; have GE375 := n7_; have NB364_375 := n8_; have NB375_364 := n9_; clear n0_ n1_ n2_ n3_ n4_ n5_ n6_ n7_ n8_ n9_; clear hb hbox hg; have hnb31 := NB375_364.out; have hnc31 := NB364_375.out; have hcz32_0 : w30.cell? ⟨gb375, 0, none⟩ = some (.string (⟨#[]⟩ : ByteArray)) := (blk_cell BK375.out 0).trans rfl; have hcz32_1 : w30.cell? ⟨gb375, 1, none⟩ = some (.int .i64 0) := (blk_cell BK375.out 1).trans rfl; have hcz32_2 : w30.cell? ⟨gb375, 2, none⟩ = some (.int .i64 0) := (blk_cell BK375.out 2).trans rfl; have hcz32_3 : w30.cell? ⟨gb375, 3, none⟩ = some (.int .i64 0) := (blk_cell BK375.out 3).trans rfl; have hcz32_4 : w30.cell? ⟨gb375, 4, none⟩ = some (.int .i64 0) := (blk_cell BK375.out 4).trans rfl; have hcz32_5 : w30.cell? ⟨gb375, 5, none⟩ = some (.bool false) := (blk_cell BK375.out 5).trans rfl; have hcz32_6 : w30.cell? ⟨gb375, 6, none⟩ = some (.slice none 0 0) := (blk_cell BK375.out 6).trans rfl; have hfz32_0 := blk_frozen BK375.out 0; have hfz32_1 := blk_frozen BK375.out 1; have hfz32_2 := blk_frozen BK375.out 2; have hfz32_3 := blk_frozen BK375.out 3; have hfz32_4 := blk_frozen BK375.out 4; have hfz32_5 := blk_frozen BK375.out 5; have hfz32_6 := blk_frozen BK375.out 6; obtain ⟨Ao33, co33, eo33⟩ := Kd.R_slice HO373.out; subst eo33))
                    (try simp only [Act.put, List.setIfInBounds_toArray, List.set_cons_zero, List.set_cons_succ])
                    go_cut [15] (fun v15 wc => ∃ (kq : Nat) (x15_22 : Int), v15 = .int .i64 x15_22 ∧ Aside0 (cartridgelaw18_ListingNext.j3 kq a0 a1 a2 x8_3 t363 t374 x15_22 = some r) ∧ Aside0 (kq ≤ k3) ∧ Aside0 (Kd.S k28 28 wc w.heap.size (fun k_ => some k_ ≠ ((.slice Ao28 t360.length co28) : Value).ownBlock ∧ some k_ ≠ ((.slice Ao33 t371.length co33) : Value).ownBlock ∧ k_ ≠ gb364 ∧ k_ ≠ gb375) (.slice Ao24 x8_3.length co24) x8_3) ∧ Aside0 (Kd.R k47 47 wc w.heap.size (fun k_ => some k_ ≠ ((.slice Ao33 t371.length co33) : Value).ownBlock) (.slice Ao28 t360.length co28) t360) ∧ Aside0 (Kd.R k47 47 wc w.heap.size (fun k_ => some k_ ≠ ((.slice Ao28 t360.length co28) : Value).ownBlock) (.slice Ao33 t371.length co33) t371) ∧ Aside0 (wc.heap[gb364]? = some (.cells #[.string t354, .int .i64 t355, .int .i64 t356, .int .i64 t357, .int .i64 t358, .bool t359, (.slice Ao28 t360.length co28)] 28 (0, 0))) ∧ Aside0 (wc.heap[gb375]? = some (.cells #[.string t365, .int .i64 t366, .int .i64 t367, .int .i64 t368, .int .i64 t369, .bool t370, (.slice Ao33 t371.length co33)] 28 (0, 0))) ∧ Aside0 (Below w.heap.size w wc))
                    case first =>
                      have H := HC23.out
                      clear HC23
                      by_cases c34 : a1 ≥ a0
                      · rw [if_pos c34] at H
                        have c34b0 : decide (a0 ≤ a1) = true := decide_eq_true c34
                        clear c34
                        (first | rw [c34b0] | (simp only [i64_w, i32_w]; rw [c34b0]) | skip)
                        have H' := Aside0.mk H
                        clear H
                        go_wp2
                        go_meet
                        case rel => exact ⟨_, (wrap64 ((wrap64 (2 * a1)) + 1)), (by first | rfl | (simp; done) | (simp [*]; done)), H', ⟨by have := HJ4.out; have := HK2.out; have := HK3.out; first | omega | exact Nat.le_refl _⟩, ⟨by (with_reducible repeat (first | apply Kd.S_alloc | apply Kd.S_drewN | apply Kd.S_drew)); exact Kd.S_mono (Kd.S_far (p := ⟨gb375, 6, none⟩) (Kd.S_far (p := ⟨gb375, 5, none⟩) (Kd.S_far (p := ⟨gb375, 4, none⟩) (Kd.S_far (p := ⟨gb375, 3, none⟩) (Kd.S_far (p := ⟨gb375, 2, none⟩) (Kd.S_far (p := ⟨gb375, 1, none⟩) (Kd.S_far (p := ⟨gb375, 0, none⟩) (Kd.S_mono HO_8.out (fun k_ hk => (⟨hk, hk.2⟩ : _ ∧ k_ ≠ gb375))) (fun _ hk => hk.2) (.string t365)) (fun _ hk => hk.2) (.int .i64 t366)) (fun _ hk => hk.2) (.int .i64 t367)) (fun _ hk => hk.2) (.int .i64 t368)) (fun _ hk => hk.2) (.int .i64 t369)) (fun _ hk => hk.2) (.bool t370)) (fun _ hk => hk.2) (.slice Ao33 t371.length co33)) (fun _ hk => ⟨hk.1.1.1.1.2, ⟨hk.1.1.2, ⟨hk.1.1.1.2, hk.1.2⟩⟩⟩)⟩, ⟨by (with_reducible repeat (first | apply Kd.R_alloc | apply Kd.R_drewN | apply Kd.R_drew)); exact Kd.R_mono (Kd.R_far (p := ⟨gb375, 6, none⟩) (Kd.R_far (p := ⟨gb375, 5, none⟩) (Kd.R_far (p := ⟨gb375, 4, none⟩) (Kd.R_far (p := ⟨gb375, 3, none⟩) (Kd.R_far (p := ⟨gb375, 2, none⟩) (Kd.R_far (p := ⟨gb375, 1, none⟩) (Kd.R_far (p := ⟨gb375, 0, none⟩) (Kd.R_types HO362.out BK375.out (by decide)) (fun _ hk => hk.2) (.string t365)) (fun _ hk => hk.2) (.int .i64 t366)) (fun _ hk => hk.2) (.int .i64 t367)) (fun _ hk => hk.2) (.int .i64 t368)) (fun _ hk => hk.2) (.int .i64 t369)) (fun _ hk => hk.2) (.bool t370)) (fun _ hk => hk.2) (.slice Ao33 t371.length co33)) (fun _ hk => hk.1.2)⟩, ⟨by (with_reducible repeat (first | apply Kd.R_alloc | apply Kd.R_drewN | apply Kd.R_drew)); exact Kd.R_mono (Kd.R_far (p := ⟨gb375, 6, none⟩) (Kd.R_far (p := ⟨gb375, 5, none⟩) (Kd.R_far (p := ⟨gb375, 4, none⟩) (Kd.R_far (p := ⟨gb375, 3, none⟩) (Kd.R_far (p := ⟨gb375, 2, none⟩) (Kd.R_far (p := ⟨gb375, 1, none⟩) (Kd.R_far (p := ⟨gb375, 0, none⟩) (Kd.R_types HO373.out BK375.out (by decide)) (fun _ hk => hk.2) (.string t365)) (fun _ hk => hk.2) (.int .i64 t366)) (fun _ hk => hk.2) (.int .i64 t367)) (fun _ hk => hk.2) (.int .i64 t368)) (fun _ hk => hk.2) (.int .i64 t369)) (fun _ hk => hk.2) (.bool t370)) (fun _ hk => hk.2) (.slice Ao33 t371.length co33)) (fun _ hk => hk.1.2)⟩, ⟨by (with_reducible repeat (first | refine blk_drewN ?_ _ | refine blk_drew ?_ | refine blk_alloc ?_ _)); refine blk_far ?_ NB364_375.out _; (with_reducible repeat (first | refine blk_drewN ?_ _ | refine blk_drew ?_ | refine blk_alloc ?_ _)); refine blk_far ?_ NB364_375.out _; (with_reducible repeat (first | refine blk_drewN ?_ _ | refine blk_drew ?_ | refine blk_alloc ?_ _)); refine blk_far ?_ NB364_375.out _; (with_reducible repeat (first | refine blk_drewN ?_ _ | refine blk_drew ?_ | refine blk_alloc ?_ _)); refine blk_far ?_ NB364_375.out _; (with_reducible repeat (first | refine blk_drewN ?_ _ | refine blk_drew ?_ | refine blk_alloc ?_ _)); refine blk_far ?_ NB364_375.out _; (with_reducible repeat (first | refine blk_drewN ?_ _ | refine blk_drew ?_ | refine blk_alloc ?_ _)); refine blk_far ?_ NB364_375.out _; (with_reducible repeat (first | refine blk_drewN ?_ _ | refine blk_drew ?_ | refine blk_alloc ?_ _)); refine blk_far ?_ NB364_375.out _; (with_reducible repeat (first | refine blk_drewN ?_ _ | refine blk_drew ?_ | refine blk_alloc ?_ _)); exact BK364.out⟩, ⟨by (with_reducible repeat (first | refine blk_drewN ?_ _ | refine blk_drew ?_ | refine blk_alloc ?_ _)); refine blk_put (cs := #[.string t365, .int .i64 t366, .int .i64 t367, .int .i64 t368, .int .i64 t369, .bool t370, .slice none 0 0]) ?_ 6 _ rfl; (with_reducible repeat (first | refine blk_drewN ?_ _ | refine blk_drew ?_ | refine blk_alloc ?_ _)); refine blk_put (cs := #[.string t365, .int .i64 t366, .int .i64 t367, .int .i64 t368, .int .i64 t369, .bool false, .slice none 0 0]) ?_ 5 _ rfl; (with_reducible repeat (first | refine blk_drewN ?_ _ | refine blk_drew ?_ | refine blk_alloc ?_ _)); refine blk_put (cs := #[.string t365, .int .i64 t366, .int .i64 t367, .int .i64 t368, .int .i64 0, .bool false, .slice none 0 0]) ?_ 4 _ rfl; (with_reducible repeat (first | refine blk_drewN ?_ _ | refine blk_drew ?_ | refine blk_alloc ?_ _)); refine blk_put (cs := #[.string t365, .int .i64 t366, .int .i64 t367, .int .i64 0, .int .i64 0, .bool false, .slice none 0 0]) ?_ 3 _ rfl; (with_reducible repeat (first | refine blk_drewN ?_ _ | refine blk_drew ?_ | refine blk_alloc ?_ _)); refine blk_put (cs := #[.string t365, .int .i64 t366, .int .i64 0, .int .i64 0, .int .i64 0, .bool false, .slice none 0 0]) ?_ 2 _ rfl; (with_reducible repeat (first | refine blk_drewN ?_ _ | refine blk_drew ?_ | refine blk_alloc ?_ _)); refine blk_put (cs := #[.string t365, .int .i64 0, .int .i64 0, .int .i64 0, .int .i64 0, .bool false, .slice none 0 0]) ?_ 1 _ rfl; (with_reducible repeat (first | refine blk_drewN ?_ _ | refine blk_drew ?_ | refine blk_alloc ?_ _)); refine blk_put (cs := #[.string (⟨#[]⟩ : ByteArray), .int .i64 0, .int .i64 0, .int .i64 0, .int .i64 0, .bool false, .slice none 0 0]) ?_ 0 _ rfl; (with_reducible repeat (first | refine blk_drewN ?_ _ | refine blk_drew ?_ | refine blk_alloc ?_ _)); exact BK375.out⟩, ⟨by repeat (first | (with_reducible first | exact HB.out | apply below_alloc | apply pw_below_drewN | apply below_drew1 | refine below_set ?_ GE364.out | refine below_set ?_ GE375.out) | exact HB.out)⟩⟩
                      · rw [if_neg c34] at H
                        have c34b0 : decide (a0 ≤ a1) = false := decide_eq_false c34
                        clear c34
                        (first | rw [c34b0] | (simp only [i64_w, i32_w]; rw [c34b0]) | skip)
                        have H' := Aside0.mk H
                        clear H
                        go_wp2
                        go_meet
                        case rel => exact ⟨_, (wrap64 (2 * a0)), (by first | rfl | (simp; done) | (simp [*]; done)), H', ⟨by have := HJ4.out; have := HK2.out; have := HK3.out; first | omega | exact Nat.le_refl _⟩, ⟨by (with_reducible repeat (first | apply Kd.S_alloc | apply Kd.S_drewN | apply Kd.S_drew)); exact Kd.S_mono (Kd.S_far (p := ⟨gb375, 6, none⟩) (Kd.S_far (p := ⟨gb375, 5, none⟩) (Kd.S_far (p := ⟨gb375, 4, none⟩) (Kd.S_far (p := ⟨gb375, 3, none⟩) (Kd.S_far (p := ⟨gb375, 2, none⟩) (Kd.S_far (p := ⟨gb375, 1, none⟩) (Kd.S_far (p := ⟨gb375, 0, none⟩) (Kd.S_mono HO_8.out (fun k_ hk => (⟨hk, hk.2⟩ : _ ∧ k_ ≠ gb375))) (fun _ hk => hk.2) (.string t365)) (fun _ hk => hk.2) (.int .i64 t366)) (fun _ hk => hk.2) (.int .i64 t367)) (fun _ hk => hk.2) (.int .i64 t368)) (fun _ hk => hk.2) (.int .i64 t369)) (fun _ hk => hk.2) (.bool t370)) (fun _ hk => hk.2) (.slice Ao33 t371.length co33)) (fun _ hk => ⟨hk.1.1.1.1.2, ⟨hk.1.1.2, ⟨hk.1.1.1.2, hk.1.2⟩⟩⟩)⟩, ⟨by (with_reducible repeat (first | apply Kd.R_alloc | apply Kd.R_drewN | apply Kd.R_drew)); exact Kd.R_mono (Kd.R_far (p := ⟨gb375, 6, none⟩) (Kd.R_far (p := ⟨gb375, 5, none⟩) (Kd.R_far (p := ⟨gb375, 4, none⟩) (Kd.R_far (p := ⟨gb375, 3, none⟩) (Kd.R_far (p := ⟨gb375, 2, none⟩) (Kd.R_far (p := ⟨gb375, 1, none⟩) (Kd.R_far (p := ⟨gb375, 0, none⟩) (Kd.R_types HO362.out BK375.out (by decide)) (fun _ hk => hk.2) (.string t365)) (fun _ hk => hk.2) (.int .i64 t366)) (fun _ hk => hk.2) (.int .i64 t367)) (fun _ hk => hk.2) (.int .i64 t368)) (fun _ hk => hk.2) (.int .i64 t369)) (fun _ hk => hk.2) (.bool t370)) (fun _ hk => hk.2) (.slice Ao33 t371.length co33)) (fun _ hk => hk.1.2)⟩, ⟨by (with_reducible repeat (first | apply Kd.R_alloc | apply Kd.R_drewN | apply Kd.R_drew)); exact Kd.R_mono (Kd.R_far (p := ⟨gb375, 6, none⟩) (Kd.R_far (p := ⟨gb375, 5, none⟩) (Kd.R_far (p := ⟨gb375, 4, none⟩) (Kd.R_far (p := ⟨gb375, 3, none⟩) (Kd.R_far (p := ⟨gb375, 2, none⟩) (Kd.R_far (p := ⟨gb375, 1, none⟩) (Kd.R_far (p := ⟨gb375, 0, none⟩) (Kd.R_types HO373.out BK375.out (by decide)) (fun _ hk => hk.2) (.string t365)) (fun _ hk => hk.2) (.int .i64 t366)) (fun _ hk => hk.2) (.int .i64 t367)) (fun _ hk => hk.2) (.int .i64 t368)) (fun _ hk => hk.2) (.int .i64 t369)) (fun _ hk => hk.2) (.bool t370)) (fun _ hk => hk.2) (.slice Ao33 t371.length co33)) (fun _ hk => hk.1.2)⟩, ⟨by (with_reducible repeat (first | refine blk_drewN ?_ _ | refine blk_drew ?_ | refine blk_alloc ?_ _)); refine blk_far ?_ NB364_375.out _; (with_reducible repeat (first | refine blk_drewN ?_ _ | refine blk_drew ?_ | refine blk_alloc ?_ _)); refine blk_far ?_ NB364_375.out _; (with_reducible repeat (first | refine blk_drewN ?_ _ | refine blk_drew ?_ | refine blk_alloc ?_ _)); refine blk_far ?_ NB364_375.out _; (with_reducible repeat (first | refine blk_drewN ?_ _ | refine blk_drew ?_ | refine blk_alloc ?_ _)); refine blk_far ?_ NB364_375.out _; (with_reducible repeat (first | refine blk_drewN ?_ _ | refine blk_drew ?_ | refine blk_alloc ?_ _)); refine blk_far ?_ NB364_375.out _; (with_reducible repeat (first | refine blk_drewN ?_ _ | refine blk_drew ?_ | refine blk_alloc ?_ _)); refine blk_far ?_ NB364_375.out _; (with_reducible repeat (first | refine blk_drewN ?_ _ | refine blk_drew ?_ | refine blk_alloc ?_ _)); refine blk_far ?_ NB364_375.out _; (with_reducible repeat (first | refine blk_drewN ?_ _ | refine blk_drew ?_ | refine blk_alloc ?_ _)); exact BK364.out⟩, ⟨by (with_reducible repeat (first | refine blk_drewN ?_ _ | refine blk_drew ?_ | refine blk_alloc ?_ _)); refine blk_put (cs := #[.string t365, .int .i64 t366, .int .i64 t367, .int .i64 t368, .int .i64 t369, .bool t370, .slice none 0 0]) ?_ 6 _ rfl; (with_reducible repeat (first | refine blk_drewN ?_ _ | refine blk_drew ?_ | refine blk_alloc ?_ _)); refine blk_put (cs := #[.string t365, .int .i64 t366, .int .i64 t367, .int .i64 t368, .int .i64 t369, .bool false, .slice none 0 0]) ?_ 5 _ rfl; (with_reducible repeat (first | refine blk_drewN ?_ _ | refine blk_drew ?_ | refine blk_alloc ?_ _)); refine blk_put (cs := #[.string t365, .int .i64 t366, .int .i64 t367, .int .i64 t368, .int .i64 0, .bool false, .slice none 0 0]) ?_ 4 _ rfl; (with_reducible repeat (first | refine blk_drewN ?_ _ | refine blk_drew ?_ | refine blk_alloc ?_ _)); refine blk_put (cs := #[.string t365, .int .i64 t366, .int .i64 t367, .int .i64 0, .int .i64 0, .bool false, .slice none 0 0]) ?_ 3 _ rfl; (with_reducible repeat (first | refine blk_drewN ?_ _ | refine blk_drew ?_ | refine blk_alloc ?_ _)); refine blk_put (cs := #[.string t365, .int .i64 t366, .int .i64 0, .int .i64 0, .int .i64 0, .bool false, .slice none 0 0]) ?_ 2 _ rfl; (with_reducible repeat (first | refine blk_drewN ?_ _ | refine blk_drew ?_ | refine blk_alloc ?_ _)); refine blk_put (cs := #[.string t365, .int .i64 0, .int .i64 0, .int .i64 0, .int .i64 0, .bool false, .slice none 0 0]) ?_ 1 _ rfl; (with_reducible repeat (first | refine blk_drewN ?_ _ | refine blk_drew ?_ | refine blk_alloc ?_ _)); refine blk_put (cs := #[.string (⟨#[]⟩ : ByteArray), .int .i64 0, .int .i64 0, .int .i64 0, .int .i64 0, .bool false, .slice none 0 0]) ?_ 0 _ rfl; (with_reducible repeat (first | refine blk_drewN ?_ _ | refine blk_drew ?_ | refine blk_alloc ?_ _)); exact BK375.out⟩, ⟨by repeat (first | (with_reducible first | exact HB.out | apply below_alloc | apply pw_below_drewN | apply below_drew1 | refine below_set ?_ GE364.out | refine below_set ?_ GE375.out) | exact HB.out)⟩⟩
                    case rest =>
                      clear HC23
                      try clear c1
                      try clear p2
                      try clear c3
                      try clear c5
                      try clear c6
                      try clear p6
                      try clear c7
                      try clear c8
                      try clear c8b0
                      try clear c9
                      try clear c9b0
                      try clear c10
                      try clear c10b0
                      try clear c11
                      try clear c12
                      try clear c12b0
                      try clear c13
                      try clear c14
                      try clear c16
                      try clear c18
                      try clear c18b0
                      try clear c19
                      try clear c31
                      try clear c34
                      try clear c34b0
                      try clear hcz27_0
                      try clear hcz27_1
                      try clear hcz27_2
                      try clear hcz27_3
                      try clear hcz27_4
                      try clear hcz27_5
                      try clear hcz27_6
                      try clear hcz32_0
                      try clear hcz32_1
                      try clear hcz32_2
                      try clear hcz32_3
                      try clear hcz32_4
                      try clear hcz32_5
                      try clear hcz32_6
                      try clear hfz27_0
                      try clear hfz27_1
                      try clear hfz27_2
                      try clear hfz27_3
                      try clear hfz27_4
                      try clear hfz27_5
                      try clear hfz27_6
                      try clear hfz32_0
                      try clear hfz32_1
                      try clear hfz32_2
                      try clear hfz32_3
                      try clear hfz32_4
                      try clear hfz32_5
                      try clear hfz32_6
                      try clear p2
                      try clear p6
                      obtain ⟨kq, x15_22, rfl, HA, HJ22, HO_8, HO_365006, HO_376006, BK364, BK375, HB⟩ := hcut
                      cases kq with
                      | zero => exact absurd HA.out (by simp [cartridgelaw18_ListingNext.j3])
                      | succ kj22 =>
                        have H := HA.out
                        clear HA
                        simp only [cartridgelaw18_ListingNext.j3] at H
                        have HC35 := Aside0.mk H
                        clear H
                        go_upto_if 91 with (fail)
                        go_cut [16] (fun v16 wc => ∃ (kq : Nat) (x16_34 : Int), v16 = .int .i64 x16_34 ∧ Aside0 (cartridgelaw18_ListingNext.j4 kq a0 a1 a2 x8_3 t363 t374 x15_22 x16_34 = some r) ∧ Aside0 (kq ≤ kj22) ∧ Aside0 (Kd.S k28 28 wc w.heap.size (fun k_ => some k_ ≠ ((.slice Ao28 t360.length co28) : Value).ownBlock ∧ some k_ ≠ ((.slice Ao33 t371.length co33) : Value).ownBlock ∧ k_ ≠ gb364 ∧ k_ ≠ gb375) (.slice Ao24 x8_3.length co24) x8_3) ∧ Aside0 (Kd.R k47 47 wc w.heap.size (fun k_ => some k_ ≠ ((.slice Ao33 t371.length co33) : Value).ownBlock) (.slice Ao28 t360.length co28) t360) ∧ Aside0 (Kd.R k47 47 wc w.heap.size (fun k_ => some k_ ≠ ((.slice Ao28 t360.length co28) : Value).ownBlock) (.slice Ao33 t371.length co33) t371) ∧ Aside0 (wc.heap[gb364]? = some (.cells #[.string t354, .int .i64 t355, .int .i64 t356, .int .i64 t357, .int .i64 t358, .bool t359, (.slice Ao28 t360.length co28)] 28 (0, 0))) ∧ Aside0 (wc.heap[gb375]? = some (.cells #[.string t365, .int .i64 t366, .int .i64 t367, .int .i64 t368, .int .i64 t369, .bool t370, (.slice Ao33 t371.length co33)] 28 (0, 0))) ∧ Aside0 (Below w.heap.size w wc))
                        case first =>
                          have H := HC35.out
                          clear HC35
                          by_cases c36 : a2 = true
                          · subst c36
                            have H1 : (cartridgelaw18_ListingNext.j4 kj22 a0 a1 true x8_3 t363 t374 x15_22 1) = some r := by rw [if_pos rfl] at H; exact H
                            clear H
                            have H := H1
                            clear H1
                            have H' := Aside0.mk H
                            clear H
                            go_wp2
                            go_meet
                            case rel => exact ⟨_, (1), (by first | rfl | (simp; done) | (simp [*]; done)), H', ⟨by have := HJ4.out; have := HK2.out; have := HK3.out; have := HJ22.out; first | omega | exact Nat.le_refl _⟩, ⟨by (with_reducible repeat (first | apply Kd.S_alloc | apply Kd.S_drewN | apply Kd.S_drew)); exact HO_8.out⟩, ⟨by (with_reducible repeat (first | apply Kd.R_alloc | apply Kd.R_drewN | apply Kd.R_drew)); exact HO_365006.out⟩, ⟨by (with_reducible repeat (first | apply Kd.R_alloc | apply Kd.R_drewN | apply Kd.R_drew)); exact HO_376006.out⟩, ⟨by (with_reducible repeat (first | refine blk_drewN ?_ _ | refine blk_drew ?_ | refine blk_alloc ?_ _)); exact BK364.out⟩, ⟨by (with_reducible repeat (first | refine blk_drewN ?_ _ | refine blk_drew ?_ | refine blk_alloc ?_ _)); exact BK375.out⟩, ⟨by repeat (first | (with_reducible first | exact HB.out | apply below_alloc | apply pw_below_drewN | apply below_drew1 | refine below_set ?_ GE364.out | refine below_set ?_ GE375.out) | exact HB.out)⟩⟩
                          · replace c36 := Bool.eq_false_iff.mpr c36
                            subst c36
                            have H1 : (cartridgelaw18_ListingNext.j4 kj22 a0 a1 false x8_3 t363 t374 x15_22 2) = some r := by rw [if_neg (show ¬ (false = true) by decide)] at H; exact H
                            clear H
                            have H := H1
                            clear H1
                            have H' := Aside0.mk H
                            clear H
                            go_wp2
                            go_meet
                            case rel => exact ⟨_, (2), (by first | rfl | (simp; done) | (simp [*]; done)), H', ⟨by have := HJ4.out; have := HK2.out; have := HK3.out; have := HJ22.out; first | omega | exact Nat.le_refl _⟩, ⟨by (with_reducible repeat (first | apply Kd.S_alloc | apply Kd.S_drewN | apply Kd.S_drew)); exact HO_8.out⟩, ⟨by (with_reducible repeat (first | apply Kd.R_alloc | apply Kd.R_drewN | apply Kd.R_drew)); exact HO_365006.out⟩, ⟨by (with_reducible repeat (first | apply Kd.R_alloc | apply Kd.R_drewN | apply Kd.R_drew)); exact HO_376006.out⟩, ⟨by (with_reducible repeat (first | refine blk_drewN ?_ _ | refine blk_drew ?_ | refine blk_alloc ?_ _)); exact BK364.out⟩, ⟨by (with_reducible repeat (first | refine blk_drewN ?_ _ | refine blk_drew ?_ | refine blk_alloc ?_ _)); exact BK375.out⟩, ⟨by repeat (first | (with_reducible first | exact HB.out | apply below_alloc | apply pw_below_drewN | apply below_drew1 | refine below_set ?_ GE364.out | refine below_set ?_ GE375.out) | exact HB.out)⟩⟩
                        case rest =>
                          clear HC35
                          try clear c1
                          try clear p2
                          try clear c3
                          try clear c5
                          try clear c6
                          try clear p6
                          try clear c7
                          try clear c8
                          try clear c8b0
                          try clear c9
                          try clear c9b0
                          try clear c10
                          try clear c10b0
                          try clear c11
                          try clear c12
                          try clear c12b0
                          try clear c13
                          try clear c14
                          try clear c16
                          try clear c18
                          try clear c18b0
                          try clear c19
                          try clear c31
                          try clear c34
                          try clear c34b0
                          try clear c36
                          try clear hcz27_0
                          try clear hcz27_1
                          try clear hcz27_2
                          try clear hcz27_3
                          try clear hcz27_4
                          try clear hcz27_5
                          try clear hcz27_6
                          try clear hcz32_0
                          try clear hcz32_1
                          try clear hcz32_2
                          try clear hcz32_3
                          try clear hcz32_4
                          try clear hcz32_5
                          try clear hcz32_6
                          try clear hfz27_0
                          try clear hfz27_1
                          try clear hfz27_2
                          try clear hfz27_3
                          try clear hfz27_4
                          try clear hfz27_5
                          try clear hfz27_6
                          try clear hfz32_0
                          try clear hfz32_1
                          try clear hfz32_2
                          try clear hfz32_3
                          try clear hfz32_4
                          try clear hfz32_5
                          try clear hfz32_6
                          try clear p2
                          try clear p6
                          obtain ⟨kq, x16_34, rfl, HA, HJ34, HO_8, HO_365006, HO_376006, BK364, BK375, HB⟩ := hcut
                          cases kq with
                          | zero => exact absurd HA.out (by simp [cartridgelaw18_ListingNext.j4])
                          | succ kj34 =>
                            have H := HA.out
                            clear HA
                            simp only [cartridgelaw18_ListingNext.j4] at H
                            replace H := Option.bind_eq_some_iff.mp H
                            obtain ⟨t376, A370, H⟩ := H
                            replace H : (if t376 = (wrap64 (a0 + 1)) then ((listing_Next.f kj34 x8_3 (⟨#[98]⟩ : ByteArray)).bind fun t377 => (if t377 = (wrap64 (a1 + 1)) then ((listing_Next.f kj34 x8_3 (⟨#[99]⟩ : ByteArray)).bind fun t378 => (if t378 = 1 then ((listing_Serial.f kj34 x8_3).bind fun t379 => (if t379 = x15_22 then (if (t363 == (!a2)) = true then (if (t374 == (!a2)) = true then ((listing_Names.f kj34 x8_3).bind fun t380 => (some ((t380.length : Int) == x16_34))) else (some false)) else (some false)) else (some false))) else (some false))) else (some false))) else (some false)) = some r := H
                            have A37 := Aside0.mk A370
                            clear A370
                            by_cases c38 : t376 = (wrap64 (a0 + 1))
                            · rw [if_pos c38] at H
                              have c38b0 : (t376 == (wrap64 (a0 + 1))) = true := beq_iff_eq.mpr c38
                              have c38b1 : (t376 != (wrap64 (a0 + 1))) = false := bne_eq_false_iff_eq.mpr c38
                              clear c38
                              replace H := Option.bind_eq_some_iff.mp H
                              obtain ⟨t377, A390, H⟩ := H
                              replace H : (if t377 = (wrap64 (a1 + 1)) then ((listing_Next.f kj34 x8_3 (⟨#[99]⟩ : ByteArray)).bind fun t378 => (if t378 = 1 then ((listing_Serial.f kj34 x8_3).bind fun t379 => (if t379 = x15_22 then (if (t363 == (!a2)) = true then (if (t374 == (!a2)) = true then ((listing_Names.f kj34 x8_3).bind fun t380 => (some ((t380.length : Int) == x16_34))) else (some false)) else (some false)) else (some false))) else (some false))) else (some false)) = some r := H
                              have A39 := Aside0.mk A390
                              clear A390
                              by_cases c40 : t377 = (wrap64 (a1 + 1))
                              · rw [if_pos c40] at H
                                have c40b0 : (t377 == (wrap64 (a1 + 1))) = true := beq_iff_eq.mpr c40
                                have c40b1 : (t377 != (wrap64 (a1 + 1))) = false := bne_eq_false_iff_eq.mpr c40
                                clear c40
                                replace H := Option.bind_eq_some_iff.mp H
                                obtain ⟨t378, A410, H⟩ := H
                                replace H : (if t378 = 1 then ((listing_Serial.f kj34 x8_3).bind fun t379 => (if t379 = x15_22 then (if (t363 == (!a2)) = true then (if (t374 == (!a2)) = true then ((listing_Names.f kj34 x8_3).bind fun t380 => (some ((t380.length : Int) == x16_34))) else (some false)) else (some false)) else (some false))) else (some false)) = some r := H
                                have A41 := Aside0.mk A410
                                clear A410
                                by_cases c42 : t378 = 1
                                · rw [if_pos c42] at H
                                  have c42b0 : (t378 == 1) = true := beq_iff_eq.mpr c42
                                  have c42b1 : (t378 != 1) = false := bne_eq_false_iff_eq.mpr c42
                                  clear c42
                                  replace H := Option.bind_eq_some_iff.mp H
                                  obtain ⟨t379, A430, H⟩ := H
                                  replace H : (if t379 = x15_22 then (if (t363 == (!a2)) = true then (if (t374 == (!a2)) = true then ((listing_Names.f kj34 x8_3).bind fun t380 => (some ((t380.length : Int) == x16_34))) else (some false)) else (some false)) else (some false)) = some r := H
                                  have A43 := Aside0.mk A430
                                  clear A430
                                  by_cases c44 : t379 = x15_22
                                  · rw [if_pos c44] at H
                                    have c44b0 : (t379 == x15_22) = true := beq_iff_eq.mpr c44
                                    have c44b1 : (t379 != x15_22) = false := bne_eq_false_iff_eq.mpr c44
                                    clear c44
                                    by_cases c45 : (t363 == (!a2)) = true
                                    · rw [if_pos c45] at H
                                      have c45b0 : (t363 == (!a2)) = true := c45
                                      (try (have c45b1 : decide (t363 = (!a2)) = true := by simpa using c45))
                                      (try (have c45b2 : (t363 == (!a2)) = true := by simpa using c45))
                                      clear c45
                                      by_cases c46 : (t374 == (!a2)) = true
                                      · rw [if_pos c46] at H
                                        have c46b0 : (t374 == (!a2)) = true := c46
                                        (try (have c46b1 : decide (t374 = (!a2)) = true := by simpa using c46))
                                        (try (have c46b2 : (t374 == (!a2)) = true := by simpa using c46))
                                        clear c46
                                        replace H := Option.bind_eq_some_iff.mp H
                                        obtain ⟨t380, A470, H⟩ := H
                                        replace H : (some ((t380.length : Int) == x16_34)) = some r := H
                                        have A47 := Aside0.mk A470
                                        clear A470
                                        obtain rfl := Option.some.inj H
                                        go_wp2_with (first | ((with_reducible refine gate_callee (f := 13) rfl ?_); refine goesL_ (some 93) rfl rfl Try.func13 (by kernel_rfl) rfl #[.slice Ao24 x8_3.length co24, .string (⟨#[97]⟩ : ByteArray)] rfl (by (try simp only [List.map_toArray, List.map_cons, List.map_nil]); first | done | rfl | (simp only [List.length_drop, List.length_take]; rfl)) ?_; (with_reducible refine (listing_Next.calls kj34 _ _ x8_3 (⟨#[97]⟩ : ByteArray) t376 _ ?side1 ?side2 A37.out).mono ?_); (case side1 => repeat (first | exact (Kd.S_reads' HO_8.out).2.2 | (with_reducible refine Kd.C_alloc ?_ _) | (with_reducible refine Kd.C_drewN ?_ _) | (with_reducible refine Kd.C_drew ?_))); (case side2 => exact (Kd.S_reads' HO_8.out).2.1); rintro e w48 ⟨rfl, hb⟩; refine ⟨_, rfl, ?_⟩; have n0_ := Aside0.mk (Kd.S_below (by (with_reducible repeat (first | apply Kd.S_alloc | apply Kd.S_drewN | apply Kd.S_drew)); exact HO_8.out) hb); have n1_ := Aside0.mk (Kd.R_below (by (with_reducible repeat (first | apply Kd.R_alloc | apply Kd.R_drewN | apply Kd.R_drew)); exact HO_365006.out) hb); have n2_ := Aside0.mk (Kd.R_below (by (with_reducible repeat (first | apply Kd.R_alloc | apply Kd.R_drewN | apply Kd.R_drew)); exact HO_376006.out) hb); have n3_ := Aside0.mk (blk_below (g := gb364) (o := .cells #[.string t354, .int .i64 t355, .int .i64 t356, .int .i64 t357, .int .i64 t358, .bool t359, .slice Ao28 t360.length co28] 28 (0, 0)) (by (with_reducible repeat (first | refine blk_drewN ?_ _ | refine blk_drew ?_ | refine blk_alloc ?_ _)); exact BK364.out) hb); have n4_ := Aside0.mk (blk_below (g := gb375) (o := .cells #[.string t365, .int .i64 t366, .int .i64 t367, .int .i64 t368, .int .i64 t369, .bool t370, .slice Ao33 t371.length co33] 28 (0, 0)) (by (with_reducible repeat (first | refine blk_drewN ?_ _ | refine blk_drew ?_ | refine blk_alloc ?_ _)); exact BK375.out) hb); have n5_ := Aside0.mk (below_step (by repeat (first | (with_reducible first | exact HB.out | apply below_alloc | apply pw_below_drewN | apply below_drew1 | refine below_set ?_ GE364.out | refine below_set ?_ GE375.out) | exact HB.out)) hb); clear HO_8; clear HO_365006; clear HO_376006; clear BK364; clear BK375; clear HB; have HO_8 := n0_; have HO_365006 := n1_; have HO_376006 := n2_; have BK364 := n3_; have BK375 := n4_; have HB := n5_; clear n0_ n1_ n2_ n3_ n4_ n5_; (try clear hb); (try clear hb2); (try clear hk); (try clear hi)) | (go_at_call 13; (with_reducible refine (listing_Next.calls kj34 _ _ x8_3 (⟨#[98]⟩ : ByteArray) t377 _ ?side1 ?side2 A39.out).mono ?_); (case side1 => repeat (first | exact (Kd.S_reads' HO_8.out).2.2 | (with_reducible refine Kd.C_alloc ?_ _) | (with_reducible refine Kd.C_drewN ?_ _) | (with_reducible refine Kd.C_drew ?_))); (case side2 => exact (Kd.S_reads' HO_8.out).2.1); rintro e w49 ⟨rfl, hb⟩; have n0_ := Aside0.mk (Kd.S_below (by (with_reducible repeat (first | apply Kd.S_alloc | apply Kd.S_drewN | apply Kd.S_drew)); exact HO_8.out) hb); have n1_ := Aside0.mk (Kd.R_below (by (with_reducible repeat (first | apply Kd.R_alloc | apply Kd.R_drewN | apply Kd.R_drew)); exact HO_365006.out) hb); have n2_ := Aside0.mk (Kd.R_below (by (with_reducible repeat (first | apply Kd.R_alloc | apply Kd.R_drewN | apply Kd.R_drew)); exact HO_376006.out) hb); have n3_ := Aside0.mk (blk_below (g := gb364) (o := .cells #[.string t354, .int .i64 t355, .int .i64 t356, .int .i64 t357, .int .i64 t358, .bool t359, .slice Ao28 t360.length co28] 28 (0, 0)) (by (with_reducible repeat (first | refine blk_drewN ?_ _ | refine blk_drew ?_ | refine blk_alloc ?_ _)); exact BK364.out) hb); have n4_ := Aside0.mk (blk_below (g := gb375) (o := .cells #[.string t365, .int .i64 t366, .int .i64 t367, .int .i64 t368, .int .i64 t369, .bool t370, .slice Ao33 t371.length co33] 28 (0, 0)) (by (with_reducible repeat (first | refine blk_drewN ?_ _ | refine blk_drew ?_ | refine blk_alloc ?_ _)); exact BK375.out) hb); have n5_ := Aside0.mk (below_step (by repeat (first | (with_reducible first | exact HB.out | apply below_alloc | apply pw_below_drewN | apply below_drew1 | refine below_set ?_ GE364.out | refine below_set ?_ GE375.out) | exact HB.out)) hb); clear HO_8; clear HO_365006; clear HO_376006; clear BK364; clear BK375; clear HB; have HO_8 := n0_; have HO_365006 := n1_; have HO_376006 := n2_; have BK364 := n3_; have BK375 := n4_; have HB := n5_; clear n0_ n1_ n2_ n3_ n4_ n5_; (try clear hb); (try clear hb2); (try clear hk); (try clear hi)) | (go_at_call 13; (with_reducible refine (listing_Next.calls kj34 _ _ x8_3 (⟨#[99]⟩ : ByteArray) t378 _ ?side1 ?side2 A41.out).mono ?_); (case side1 => repeat (first | exact (Kd.S_reads' HO_8.out).2.2 | (with_reducible refine Kd.C_alloc ?_ _) | (with_reducible refine Kd.C_drewN ?_ _) | (with_reducible refine Kd.C_drew ?_))); (case side2 => exact (Kd.S_reads' HO_8.out).2.1); rintro e w50 ⟨rfl, hb⟩; have n0_ := Aside0.mk (Kd.S_below (by (with_reducible repeat (first | apply Kd.S_alloc | apply Kd.S_drewN | apply Kd.S_drew)); exact HO_8.out) hb); have n1_ := Aside0.mk (Kd.R_below (by (with_reducible repeat (first | apply Kd.R_alloc | apply Kd.R_drewN | apply Kd.R_drew)); exact HO_365006.out) hb); have n2_ := Aside0.mk (Kd.R_below (by (with_reducible repeat (first | apply Kd.R_alloc | apply Kd.R_drewN | apply Kd.R_drew)); exact HO_376006.out) hb); have n3_ := Aside0.mk (blk_below (g := gb364) (o := .cells #[.string t354, .int .i64 t355, .int .i64 t356, .int .i64 t357, .int .i64 t358, .bool t359, .slice Ao28 t360.length co28] 28 (0, 0)) (by (with_reducible repeat (first | refine blk_drewN ?_ _ | refine blk_drew ?_ | refine blk_alloc ?_ _)); exact BK364.out) hb); have n4_ := Aside0.mk (blk_below (g := gb375) (o := .cells #[.string t365, .int .i64 t366, .int .i64 t367, .int .i64 t368, .int .i64 t369, .bool t370, .slice Ao33 t371.length co33] 28 (0, 0)) (by (with_reducible repeat (first | refine blk_drewN ?_ _ | refine blk_drew ?_ | refine blk_alloc ?_ _)); exact BK375.out) hb); have n5_ := Aside0.mk (below_step (by repeat (first | (with_reducible first | exact HB.out | apply below_alloc | apply pw_below_drewN | apply below_drew1 | refine below_set ?_ GE364.out | refine below_set ?_ GE375.out) | exact HB.out)) hb); clear HO_8; clear HO_365006; clear HO_376006; clear BK364; clear BK375; clear HB; have HO_8 := n0_; have HO_365006 := n1_; have HO_376006 := n2_; have BK364 := n3_; have BK375 := n4_; have HB := n5_; clear n0_ n1_ n2_ n3_ n4_ n5_; (try clear hb); (try clear hb2); (try clear hk); (try clear hi)) | (go_at_call 15; (with_reducible refine (listing_Serial.calls kj34 _ _ x8_3 t379 _ ?side1 ?side2 A43.out).mono ?_); (case side1 => repeat (first | exact (Kd.S_reads' HO_8.out).2.2 | (with_reducible refine Kd.C_alloc ?_ _) | (with_reducible refine Kd.C_drewN ?_ _) | (with_reducible refine Kd.C_drew ?_))); (case side2 => exact (Kd.S_reads' HO_8.out).2.1); rintro e w51 ⟨rfl, hb⟩; have n0_ := Aside0.mk (Kd.S_below (by (with_reducible repeat (first | apply Kd.S_alloc | apply Kd.S_drewN | apply Kd.S_drew)); exact HO_8.out) hb); have n1_ := Aside0.mk (Kd.R_below (by (with_reducible repeat (first | apply Kd.R_alloc | apply Kd.R_drewN | apply Kd.R_drew)); exact HO_365006.out) hb); have n2_ := Aside0.mk (Kd.R_below (by (with_reducible repeat (first | apply Kd.R_alloc | apply Kd.R_drewN | apply Kd.R_drew)); exact HO_376006.out) hb); have n3_ := Aside0.mk (blk_below (g := gb364) (o := .cells #[.string t354, .int .i64 t355, .int .i64 t356, .int .i64 t357, .int .i64 t358, .bool t359, .slice Ao28 t360.length co28] 28 (0, 0)) (by (with_reducible repeat (first | refine blk_drewN ?_ _ | refine blk_drew ?_ | refine blk_alloc ?_ _)); exact BK364.out) hb); have n4_ := Aside0.mk (blk_below (g := gb375) (o := .cells #[.string t365, .int .i64 t366, .int .i64 t367, .int .i64 t368, .int .i64 t369, .bool t370, .slice Ao33 t371.length co33] 28 (0, 0)) (by (with_reducible repeat (first | refine blk_drewN ?_ _ | refine blk_drew ?_ | refine blk_alloc ?_ _)); exact BK375.out) hb); have n5_ := Aside0.mk (below_step (by repeat (first | (with_reducible first | exact HB.out | apply below_alloc | apply pw_below_drewN | apply below_drew1 | refine below_set ?_ GE364.out | refine below_set ?_ GE375.out) | exact HB.out)) hb); clear HO_8; clear HO_365006; clear HO_376006; clear BK364; clear BK375; clear HB; have HO_8 := n0_; have HO_365006 := n1_; have HO_376006 := n2_; have BK364 := n3_; have BK375 := n4_; have HB := n5_; clear n0_ n1_ n2_ n3_ n4_ n5_; (try clear hb); (try clear hb2); (try clear hk); (try clear hi)) | (go_at_call 7; (with_reducible refine (listing_Names.calls kj34 _ _ x8_3 t380 _ ?side1 ?side2 A47.out).mono ?_); (case side1 => repeat (first | exact (Kd.S_reads' HO_8.out).2.2 | (with_reducible refine Kd.C_alloc ?_ _) | (with_reducible refine Kd.C_drewN ?_ _) | (with_reducible refine Kd.C_drew ?_))); (case side2 => exact (Kd.S_reads' HO_8.out).2.1); rintro e w52 ⟨v381, rfl, ho0, hb⟩; have n0_ := Aside0.mk (Kd.S_below (by (with_reducible repeat (first | apply Kd.S_alloc | apply Kd.S_drewN | apply Kd.S_drew)); exact HO_8.out) hb); have n1_ := Aside0.mk (Kd.R_below (by (with_reducible repeat (first | apply Kd.R_alloc | apply Kd.R_drewN | apply Kd.R_drew)); exact HO_365006.out) hb); have n2_ := Aside0.mk (Kd.R_below (by (with_reducible repeat (first | apply Kd.R_alloc | apply Kd.R_drewN | apply Kd.R_drew)); exact HO_376006.out) hb); have n3_ := Aside0.mk (Kd.R_lower ho0 (below_size (by repeat (first | (with_reducible first | exact HB.out | apply below_alloc | apply pw_below_drewN | apply below_drew1 | refine below_set ?_ GE364.out | refine below_set ?_ GE375.out) | exact HB.out)))); have n4_ := Aside0.mk (blk_below (g := gb364) (o := .cells #[.string t354, .int .i64 t355, .int .i64 t356, .int .i64 t357, .int .i64 t358, .bool t359, .slice Ao28 t360.length co28] 28 (0, 0)) (by (with_reducible repeat (first | refine blk_drewN ?_ _ | refine blk_drew ?_ | refine blk_alloc ?_ _)); exact BK364.out) hb); have n5_ := Aside0.mk (blk_below (g := gb375) (o := .cells #[.string t365, .int .i64 t366, .int .i64 t367, .int .i64 t368, .int .i64 t369, .bool t370, .slice Ao33 t371.length co33] 28 (0, 0)) (by (with_reducible repeat (first | refine blk_drewN ?_ _ | refine blk_drew ?_ | refine blk_alloc ?_ _)); exact BK375.out) hb); have n6_ := Aside0.mk (below_step (by repeat (first | (with_reducible first | exact HB.out | apply below_alloc | apply pw_below_drewN | apply below_drew1 | refine below_set ?_ GE364.out | refine below_set ?_ GE375.out) | exact HB.out)) hb); clear HO_8; clear HO_365006; clear HO_376006; clear BK364; clear BK375; clear HB; have HO_8 := n0_; have HO_365006 := n1_; have HO_376006 := n2_; have HO382 := n3_; have BK364 := n4_; have BK375 := n5_; have HB := n6_; clear n0_ n1_ n2_ n3_ n4_ n5_ n6_; (try clear hb); (try clear hb2); (try clear hk); (try clear hi); (try clear ho0); obtain ⟨Ao53, co53, eo53⟩ := Kd.R_slice HO382.out; subst eo53))
                                        go_ret
                                        exact ⟨by first | rfl | (simp [errW_none, errW_some] <;> rfl) | (simp [*, errW_none, errW_some] <;> rfl), by repeat (first | (with_reducible first | exact HB.out | apply below_alloc | apply pw_below_drewN | apply below_drew1 | refine below_set ?_ GE364.out | refine below_set ?_ GE375.out) | exact HB.out)⟩
                                      · rw [if_neg c46] at H
                                        have c46b0 : (t374 == (!a2)) = false := by simpa using c46
                                        (try (have c46b1 : decide (t374 = (!a2)) = false := by simpa using c46))
                                        (try (have c46b2 : (t374 == (!a2)) = false := by simpa using c46))
                                        (try (have c46b3 : ¬ (t374 = (!a2)) := by simpa using c46))
                                        clear c46
                                        obtain rfl := Option.some.inj H
                                        go_wp2_with (first | ((with_reducible refine gate_callee (f := 13) rfl ?_); refine goesL_ (some 93) rfl rfl Try.func13 (by kernel_rfl) rfl #[.slice Ao24 x8_3.length co24, .string (⟨#[97]⟩ : ByteArray)] rfl (by (try simp only [List.map_toArray, List.map_cons, List.map_nil]); first | done | rfl | (simp only [List.length_drop, List.length_take]; rfl)) ?_; (with_reducible refine (listing_Next.calls kj34 _ _ x8_3 (⟨#[97]⟩ : ByteArray) t376 _ ?side1 ?side2 A37.out).mono ?_); (case side1 => repeat (first | exact (Kd.S_reads' HO_8.out).2.2 | (with_reducible refine Kd.C_alloc ?_ _) | (with_reducible refine Kd.C_drewN ?_ _) | (with_reducible refine Kd.C_drew ?_))); (case side2 => exact (Kd.S_reads' HO_8.out).2.1); rintro e w54 ⟨rfl, hb⟩; refine ⟨_, rfl, ?_⟩; have n0_ := Aside0.mk (Kd.S_below (by (with_reducible repeat (first | apply Kd.S_alloc | apply Kd.S_drewN | apply Kd.S_drew)); exact HO_8.out) hb); have n1_ := Aside0.mk (Kd.R_below (by (with_reducible repeat (first | apply Kd.R_alloc | apply Kd.R_drewN | apply Kd.R_drew)); exact HO_365006.out) hb); have n2_ := Aside0.mk (Kd.R_below (by (with_reducible repeat (first | apply Kd.R_alloc | apply Kd.R_drewN | apply Kd.R_drew)); exact HO_376006.out) hb); have n3_ := Aside0.mk (blk_below (g := gb364) (o := .cells #[.string t354, .int .i64 t355, .int .i64 t356, .int .i64 t357, .int .i64 t358, .bool t359, .slice Ao28 t360.length co28] 28 (0, 0)) (by (with_reducible repeat (first | refine blk_drewN ?_ _ | refine blk_drew ?_ | refine blk_alloc ?_ _)); exact BK364.out) hb); have n4_ := Aside0.mk (blk_below (g := gb375) (o := .cells #[.string t365, .int .i64 t366, .int .i64 t367, .int .i64 t368, .int .i64 t369, .bool t370, .slice Ao33 t371.length co33] 28 (0, 0)) (by (with_reducible repeat (first | refine blk_drewN ?_ _ | refine blk_drew ?_ | refine blk_alloc ?_ _)); exact BK375.out) hb); have n5_ := Aside0.mk (below_step (by repeat (first | (with_reducible first | exact HB.out | apply below_alloc | apply pw_below_drewN | apply below_drew1 | refine below_set ?_ GE364.out | refine below_set ?_ GE375.out) | exact HB.out)) hb); clear HO_8; clear HO_365006; clear HO_376006; clear BK364; clear BK375; clear HB; have HO_8 := n0_; have HO_365006 := n1_; have HO_376006 := n2_; have BK364 := n3_; have BK375 := n4_; have HB := n5_; clear n0_ n1_ n2_ n3_ n4_ n5_; (try clear hb); (try clear hb2); (try clear hk); (try clear hi)) | (go_at_call 13; (with_reducible refine (listing_Next.calls kj34 _ _ x8_3 (⟨#[98]⟩ : ByteArray) t377 _ ?side1 ?side2 A39.out).mono ?_); (case side1 => repeat (first | exact (Kd.S_reads' HO_8.out).2.2 | (with_reducible refine Kd.C_alloc ?_ _) | (with_reducible refine Kd.C_drewN ?_ _) | (with_reducible refine Kd.C_drew ?_))); (case side2 => exact (Kd.S_reads' HO_8.out).2.1); rintro e w55 ⟨rfl, hb⟩; have n0_ := Aside0.mk (Kd.S_below (by (with_reducible repeat (first | apply Kd.S_alloc | apply Kd.S_drewN | apply Kd.S_drew)); exact HO_8.out) hb); have n1_ := Aside0.mk (Kd.R_below (by (with_reducible repeat (first | apply Kd.R_alloc | apply Kd.R_drewN | apply Kd.R_drew)); exact HO_365006.out) hb); have n2_ := Aside0.mk (Kd.R_below (by (with_reducible repeat (first | apply Kd.R_alloc | apply Kd.R_drewN | apply Kd.R_drew)); exact HO_376006.out) hb); have n3_ := Aside0.mk (blk_below (g := gb364) (o := .cells #[.string t354, .int .i64 t355, .int .i64 t356, .int .i64 t357, .int .i64 t358, .bool t359, .slice Ao28 t360.length co28] 28 (0, 0)) (by (with_reducible repeat (first | refine blk_drewN ?_ _ | refine blk_drew ?_ | refine blk_alloc ?_ _)); exact BK364.out) hb); have n4_ := Aside0.mk (blk_below (g := gb375) (o := .cells #[.string t365, .int .i64 t366, .int .i64 t367, .int .i64 t368, .int .i64 t369, .bool t370, .slice Ao33 t371.length co33] 28 (0, 0)) (by (with_reducible repeat (first | refine blk_drewN ?_ _ | refine blk_drew ?_ | refine blk_alloc ?_ _)); exact BK375.out) hb); have n5_ := Aside0.mk (below_step (by repeat (first | (with_reducible first | exact HB.out | apply below_alloc | apply pw_below_drewN | apply below_drew1 | refine below_set ?_ GE364.out | refine below_set ?_ GE375.out) | exact HB.out)) hb); clear HO_8; clear HO_365006; clear HO_376006; clear BK364; clear BK375; clear HB; have HO_8 := n0_; have HO_365006 := n1_; have HO_376006 := n2_; have BK364 := n3_; have BK375 := n4_; have HB := n5_; clear n0_ n1_ n2_ n3_ n4_ n5_; (try clear hb); (try clear hb2); (try clear hk); (try clear hi)) | (go_at_call 13; (with_reducible refine (listing_Next.calls kj34 _ _ x8_3 (⟨#[99]⟩ : ByteArray) t378 _ ?side1 ?side2 A41.out).mono ?_); (case side1 => repeat (first | exact (Kd.S_reads' HO_8.out).2.2 | (with_reducible refine Kd.C_alloc ?_ _) | (with_reducible refine Kd.C_drewN ?_ _) | (with_reducible refine Kd.C_drew ?_))); (case side2 => exact (Kd.S_reads' HO_8.out).2.1); rintro e w56 ⟨rfl, hb⟩; have n0_ := Aside0.mk (Kd.S_below (by (with_reducible repeat (first | apply Kd.S_alloc | apply Kd.S_drewN | apply Kd.S_drew)); exact HO_8.out) hb); have n1_ := Aside0.mk (Kd.R_below (by (with_reducible repeat (first | apply Kd.R_alloc | apply Kd.R_drewN | apply Kd.R_drew)); exact HO_365006.out) hb); have n2_ := Aside0.mk (Kd.R_below (by (with_reducible repeat (first | apply Kd.R_alloc | apply Kd.R_drewN | apply Kd.R_drew)); exact HO_376006.out) hb); have n3_ := Aside0.mk (blk_below (g := gb364) (o := .cells #[.string t354, .int .i64 t355, .int .i64 t356, .int .i64 t357, .int .i64 t358, .bool t359, .slice Ao28 t360.length co28] 28 (0, 0)) (by (with_reducible repeat (first | refine blk_drewN ?_ _ | refine blk_drew ?_ | refine blk_alloc ?_ _)); exact BK364.out) hb); have n4_ := Aside0.mk (blk_below (g := gb375) (o := .cells #[.string t365, .int .i64 t366, .int .i64 t367, .int .i64 t368, .int .i64 t369, .bool t370, .slice Ao33 t371.length co33] 28 (0, 0)) (by (with_reducible repeat (first | refine blk_drewN ?_ _ | refine blk_drew ?_ | refine blk_alloc ?_ _)); exact BK375.out) hb); have n5_ := Aside0.mk (below_step (by repeat (first | (with_reducible first | exact HB.out | apply below_alloc | apply pw_below_drewN | apply below_drew1 | refine below_set ?_ GE364.out | refine below_set ?_ GE375.out) | exact HB.out)) hb); clear HO_8; clear HO_365006; clear HO_376006; clear BK364; clear BK375; clear HB; have HO_8 := n0_; have HO_365006 := n1_; have HO_376006 := n2_; have BK364 := n3_; have BK375 := n4_; have HB := n5_; clear n0_ n1_ n2_ n3_ n4_ n5_; (try clear hb); (try clear hb2); (try clear hk); (try clear hi)) | (go_at_call 15; (with_reducible refine (listing_Serial.calls kj34 _ _ x8_3 t379 _ ?side1 ?side2 A43.out).mono ?_); (case side1 => repeat (first | exact (Kd.S_reads' HO_8.out).2.2 | (with_reducible refine Kd.C_alloc ?_ _) | (with_reducible refine Kd.C_drewN ?_ _) | (with_reducible refine Kd.C_drew ?_))); (case side2 => exact (Kd.S_reads' HO_8.out).2.1); rintro e w57 ⟨rfl, hb⟩; have n0_ := Aside0.mk (Kd.S_below (by (with_reducible repeat (first | apply Kd.S_alloc | apply Kd.S_drewN | apply Kd.S_drew)); exact HO_8.out) hb); have n1_ := Aside0.mk (Kd.R_below (by (with_reducible repeat (first | apply Kd.R_alloc | apply Kd.R_drewN | apply Kd.R_drew)); exact HO_365006.out) hb); have n2_ := Aside0.mk (Kd.R_below (by (with_reducible repeat (first | apply Kd.R_alloc | apply Kd.R_drewN | apply Kd.R_drew)); exact HO_376006.out) hb); have n3_ := Aside0.mk (blk_below (g := gb364) (o := .cells #[.string t354, .int .i64 t355, .int .i64 t356, .int .i64 t357, .int .i64 t358, .bool t359, .slice Ao28 t360.length co28] 28 (0, 0)) (by (with_reducible repeat (first | refine blk_drewN ?_ _ | refine blk_drew ?_ | refine blk_alloc ?_ _)); exact BK364.out) hb); have n4_ := Aside0.mk (blk_below (g := gb375) (o := .cells #[.string t365, .int .i64 t366, .int .i64 t367, .int .i64 t368, .int .i64 t369, .bool t370, .slice Ao33 t371.length co33] 28 (0, 0)) (by (with_reducible repeat (first | refine blk_drewN ?_ _ | refine blk_drew ?_ | refine blk_alloc ?_ _)); exact BK375.out) hb); have n5_ := Aside0.mk (below_step (by repeat (first | (with_reducible first | exact HB.out | apply below_alloc | apply pw_below_drewN | apply below_drew1 | refine below_set ?_ GE364.out | refine below_set ?_ GE375.out) | exact HB.out)) hb); clear HO_8; clear HO_365006; clear HO_376006; clear BK364; clear BK375; clear HB; have HO_8 := n0_; have HO_365006 := n1_; have HO_376006 := n2_; have BK364 := n3_; have BK375 := n4_; have HB := n5_; clear n0_ n1_ n2_ n3_ n4_ n5_; (try clear hb); (try clear hb2); (try clear hk); (try clear hi)))
                                        go_ret
                                        exact ⟨by first | rfl | (simp [errW_none, errW_some] <;> rfl) | (simp [*, errW_none, errW_some] <;> rfl), by repeat (first | (with_reducible first | exact HB.out | apply below_alloc | apply pw_below_drewN | apply below_drew1 | refine below_set ?_ GE364.out | refine below_set ?_ GE375.out) | exact HB.out)⟩
                                    · rw [if_neg c45] at H
                                      have c45b0 : (t363 == (!a2)) = false := by simpa using c45
                                      (try (have c45b1 : decide (t363 = (!a2)) = false := by simpa using c45))
                                      (try (have c45b2 : (t363 == (!a2)) = false := by simpa using c45))
                                      (try (have c45b3 : ¬ (t363 = (!a2)) := by simpa using c45))
                                      clear c45
                                      obtain rfl := Option.some.inj H
                                      go_wp2_with (first | ((with_reducible refine gate_callee (f := 13) rfl ?_); refine goesL_ (some 93) rfl rfl Try.func13 (by kernel_rfl) rfl #[.slice Ao24 x8_3.length co24, .string (⟨#[97]⟩ : ByteArray)] rfl (by (try simp only [List.map_toArray, List.map_cons, List.map_nil]); first | done | rfl | (simp only [List.length_drop, List.length_take]; rfl)) ?_; (with_reducible refine (listing_Next.calls kj34 _ _ x8_3 (⟨#[97]⟩ : ByteArray) t376 _ ?side1 ?side2 A37.out).mono ?_); (case side1 => repeat (first | exact (Kd.S_reads' HO_8.out).2.2 | (with_reducible refine Kd.C_alloc ?_ _) | (with_reducible refine Kd.C_drewN ?_ _) | (with_reducible refine Kd.C_drew ?_))); (case side2 => exact (Kd.S_reads' HO_8.out).2.1); rintro e w58 ⟨rfl, hb⟩; refine ⟨_, rfl, ?_⟩; have n0_ := Aside0.mk (Kd.S_below (by (with_reducible repeat (first | apply Kd.S_alloc | apply Kd.S_drewN | apply Kd.S_drew)); exact HO_8.out) hb); have n1_ := Aside0.mk (Kd.R_below (by (with_reducible repeat (first | apply Kd.R_alloc | apply Kd.R_drewN | apply Kd.R_drew)); exact HO_365006.out) hb); have n2_ := Aside0.mk (Kd.R_below (by (with_reducible repeat (first | apply Kd.R_alloc | apply Kd.R_drewN | apply Kd.R_drew)); exact HO_376006.out) hb); have n3_ := Aside0.mk (blk_below (g := gb364) (o := .cells #[.string t354, .int .i64 t355, .int .i64 t356, .int .i64 t357, .int .i64 t358, .bool t359, .slice Ao28 t360.length co28] 28 (0, 0)) (by (with_reducible repeat (first | refine blk_drewN ?_ _ | refine blk_drew ?_ | refine blk_alloc ?_ _)); exact BK364.out) hb); have n4_ := Aside0.mk (blk_below (g := gb375) (o := .cells #[.string t365, .int .i64 t366, .int .i64 t367, .int .i64 t368, .int .i64 t369, .bool t370, .slice Ao33 t371.length co33] 28 (0, 0)) (by (with_reducible repeat (first | refine blk_drewN ?_ _ | refine blk_drew ?_ | refine blk_alloc ?_ _)); exact BK375.out) hb); have n5_ := Aside0.mk (below_step (by repeat (first | (with_reducible first | exact HB.out | apply below_alloc | apply pw_below_drewN | apply below_drew1 | refine below_set ?_ GE364.out | refine below_set ?_ GE375.out) | exact HB.out)) hb); clear HO_8; clear HO_365006; clear HO_376006; clear BK364; clear BK375; clear HB; have HO_8 := n0_; have HO_365006 := n1_; have HO_376006 := n2_; have BK364 := n3_; have BK375 := n4_; have HB := n5_; clear n0_ n1_ n2_ n3_ n4_ n5_; (try clear hb); (try clear hb2); (try clear hk); (try clear hi)) | (go_at_call 13; (with_reducible refine (listing_Next.calls kj34 _ _ x8_3 (⟨#[98]⟩ : ByteArray) t377 _ ?side1 ?side2 A39.out).mono ?_); (case side1 => repeat (first | exact (Kd.S_reads' HO_8.out).2.2 | (with_reducible refine Kd.C_alloc ?_ _) | (with_reducible refine Kd.C_drewN ?_ _) | (with_reducible refine Kd.C_drew ?_))); (case side2 => exact (Kd.S_reads' HO_8.out).2.1); rintro e w59 ⟨rfl, hb⟩; have n0_ := Aside0.mk (Kd.S_below (by (with_reducible repeat (first | apply Kd.S_alloc | apply Kd.S_drewN | apply Kd.S_drew)); exact HO_8.out) hb); have n1_ := Aside0.mk (Kd.R_below (by (with_reducible repeat (first | apply Kd.R_alloc | apply Kd.R_drewN | apply Kd.R_drew)); exact HO_365006.out) hb); have n2_ := Aside0.mk (Kd.R_below (by (with_reducible repeat (first | apply Kd.R_alloc | apply Kd.R_drewN | apply Kd.R_drew)); exact HO_376006.out) hb); have n3_ := Aside0.mk (blk_below (g := gb364) (o := .cells #[.string t354, .int .i64 t355, .int .i64 t356, .int .i64 t357, .int .i64 t358, .bool t359, .slice Ao28 t360.length co28] 28 (0, 0)) (by (with_reducible repeat (first | refine blk_drewN ?_ _ | refine blk_drew ?_ | refine blk_alloc ?_ _)); exact BK364.out) hb); have n4_ := Aside0.mk (blk_below (g := gb375) (o := .cells #[.string t365, .int .i64 t366, .int .i64 t367, .int .i64 t368, .int .i64 t369, .bool t370, .slice Ao33 t371.length co33] 28 (0, 0)) (by (with_reducible repeat (first | refine blk_drewN ?_ _ | refine blk_drew ?_ | refine blk_alloc ?_ _)); exact BK375.out) hb); have n5_ := Aside0.mk (below_step (by repeat (first | (with_reducible first | exact HB.out | apply below_alloc | apply pw_below_drewN | apply below_drew1 | refine below_set ?_ GE364.out | refine below_set ?_ GE375.out) | exact HB.out)) hb); clear HO_8; clear HO_365006; clear HO_376006; clear BK364; clear BK375; clear HB; have HO_8 := n0_; have HO_365006 := n1_; have HO_376006 := n2_; have BK364 := n3_; have BK375 := n4_; have HB := n5_; clear n0_ n1_ n2_ n3_ n4_ n5_; (try clear hb); (try clear hb2); (try clear hk); (try clear hi)) | (go_at_call 13; (with_reducible refine (listing_Next.calls kj34 _ _ x8_3 (⟨#[99]⟩ : ByteArray) t378 _ ?side1 ?side2 A41.out).mono ?_); (case side1 => repeat (first | exact (Kd.S_reads' HO_8.out).2.2 | (with_reducible refine Kd.C_alloc ?_ _) | (with_reducible refine Kd.C_drewN ?_ _) | (with_reducible refine Kd.C_drew ?_))); (case side2 => exact (Kd.S_reads' HO_8.out).2.1); rintro e w60 ⟨rfl, hb⟩; have n0_ := Aside0.mk (Kd.S_below (by (with_reducible repeat (first | apply Kd.S_alloc | apply Kd.S_drewN | apply Kd.S_drew)); exact HO_8.out) hb); have n1_ := Aside0.mk (Kd.R_below (by (with_reducible repeat (first | apply Kd.R_alloc | apply Kd.R_drewN | apply Kd.R_drew)); exact HO_365006.out) hb); have n2_ := Aside0.mk (Kd.R_below (by (with_reducible repeat (first | apply Kd.R_alloc | apply Kd.R_drewN | apply Kd.R_drew)); exact HO_376006.out) hb); have n3_ := Aside0.mk (blk_below (g := gb364) (o := .cells #[.string t354, .int .i64 t355, .int .i64 t356, .int .i64 t357, .int .i64 t358, .bool t359, .slice Ao28 t360.length co28] 28 (0, 0)) (by (with_reducible repeat (first | refine blk_drewN ?_ _ | refine blk_drew ?_ | refine blk_alloc ?_ _)); exact BK364.out) hb); have n4_ := Aside0.mk (blk_below (g := gb375) (o := .cells #[.string t365, .int .i64 t366, .int .i64 t367, .int .i64 t368, .int .i64 t369, .bool t370, .slice Ao33 t371.length co33] 28 (0, 0)) (by (with_reducible repeat (first | refine blk_drewN ?_ _ | refine blk_drew ?_ | refine blk_alloc ?_ _)); exact BK375.out) hb); have n5_ := Aside0.mk (below_step (by repeat (first | (with_reducible first | exact HB.out | apply below_alloc | apply pw_below_drewN | apply below_drew1 | refine below_set ?_ GE364.out | refine below_set ?_ GE375.out) | exact HB.out)) hb); clear HO_8; clear HO_365006; clear HO_376006; clear BK364; clear BK375; clear HB; have HO_8 := n0_; have HO_365006 := n1_; have HO_376006 := n2_; have BK364 := n3_; have BK375 := n4_; have HB := n5_; clear n0_ n1_ n2_ n3_ n4_ n5_; (try clear hb); (try clear hb2); (try clear hk); (try clear hi)) | (go_at_call 15; (with_reducible refine (listing_Serial.calls kj34 _ _ x8_3 t379 _ ?side1 ?side2 A43.out).mono ?_); (case side1 => repeat (first | exact (Kd.S_reads' HO_8.out).2.2 | (with_reducible refine Kd.C_alloc ?_ _) | (with_reducible refine Kd.C_drewN ?_ _) | (with_reducible refine Kd.C_drew ?_))); (case side2 => exact (Kd.S_reads' HO_8.out).2.1); rintro e w61 ⟨rfl, hb⟩; have n0_ := Aside0.mk (Kd.S_below (by (with_reducible repeat (first | apply Kd.S_alloc | apply Kd.S_drewN | apply Kd.S_drew)); exact HO_8.out) hb); have n1_ := Aside0.mk (Kd.R_below (by (with_reducible repeat (first | apply Kd.R_alloc | apply Kd.R_drewN | apply Kd.R_drew)); exact HO_365006.out) hb); have n2_ := Aside0.mk (Kd.R_below (by (with_reducible repeat (first | apply Kd.R_alloc | apply Kd.R_drewN | apply Kd.R_drew)); exact HO_376006.out) hb); have n3_ := Aside0.mk (blk_below (g := gb364) (o := .cells #[.string t354, .int .i64 t355, .int .i64 t356, .int .i64 t357, .int .i64 t358, .bool t359, .slice Ao28 t360.length co28] 28 (0, 0)) (by (with_reducible repeat (first | refine blk_drewN ?_ _ | refine blk_drew ?_ | refine blk_alloc ?_ _)); exact BK364.out) hb); have n4_ := Aside0.mk (blk_below (g := gb375) (o := .cells #[.string t365, .int .i64 t366, .int .i64 t367, .int .i64 t368, .int .i64 t369, .bool t370, .slice Ao33 t371.length co33] 28 (0, 0)) (by (with_reducible repeat (first | refine blk_drewN ?_ _ | refine blk_drew ?_ | refine blk_alloc ?_ _)); exact BK375.out) hb); have n5_ := Aside0.mk (below_step (by repeat (first | (with_reducible first | exact HB.out | apply below_alloc | apply pw_below_drewN | apply below_drew1 | refine below_set ?_ GE364.out | refine below_set ?_ GE375.out) | exact HB.out)) hb); clear HO_8; clear HO_365006; clear HO_376006; clear BK364; clear BK375; clear HB; have HO_8 := n0_; have HO_365006 := n1_; have HO_376006 := n2_; have BK364 := n3_; have BK375 := n4_; have HB := n5_; clear n0_ n1_ n2_ n3_ n4_ n5_; (try clear hb); (try clear hb2); (try clear hk); (try clear hi)))
                                      go_ret
                                      exact ⟨by first | rfl | (simp [errW_none, errW_some] <;> rfl) | (simp [*, errW_none, errW_some] <;> rfl), by repeat (first | (with_reducible first | exact HB.out | apply below_alloc | apply pw_below_drewN | apply below_drew1 | refine below_set ?_ GE364.out | refine below_set ?_ GE375.out) | exact HB.out)⟩
                                  · rw [if_neg c44] at H
                                    have c44b0 : (t379 == x15_22) = false := beq_eq_false_iff_ne.mpr c44
                                    have c44b1 : (t379 != x15_22) = true := bne_iff_ne.mpr c44
                                    obtain rfl := Option.some.inj H
                                    go_wp2_with (first | ((with_reducible refine gate_callee (f := 13) rfl ?_); refine goesL_ (some 93) rfl rfl Try.func13 (by kernel_rfl) rfl #[.slice Ao24 x8_3.length co24, .string (⟨#[97]⟩ : ByteArray)] rfl (by (try simp only [List.map_toArray, List.map_cons, List.map_nil]); first | done | rfl | (simp only [List.length_drop, List.length_take]; rfl)) ?_; (with_reducible refine (listing_Next.calls kj34 _ _ x8_3 (⟨#[97]⟩ : ByteArray) t376 _ ?side1 ?side2 A37.out).mono ?_); (case side1 => repeat (first | exact (Kd.S_reads' HO_8.out).2.2 | (with_reducible refine Kd.C_alloc ?_ _) | (with_reducible refine Kd.C_drewN ?_ _) | (with_reducible refine Kd.C_drew ?_))); (case side2 => exact (Kd.S_reads' HO_8.out).2.1); rintro e w62 ⟨rfl, hb⟩; refine ⟨_, rfl, ?_⟩; have n0_ := Aside0.mk (Kd.S_below (by (with_reducible repeat (first | apply Kd.S_alloc | apply Kd.S_drewN | apply Kd.S_drew)); exact HO_8.out) hb); have n1_ := Aside0.mk (Kd.R_below (by (with_reducible repeat (first | apply Kd.R_alloc | apply Kd.R_drewN | apply Kd.R_drew)); exact HO_365006.out) hb); have n2_ := Aside0.mk (Kd.R_below (by (with_reducible repeat (first | apply Kd.R_alloc | apply Kd.R_drewN | apply Kd.R_drew)); exact HO_376006.out) hb); have n3_ := Aside0.mk (blk_below (g := gb364) (o := .cells #[.string t354, .int .i64 t355, .int .i64 t356, .int .i64 t357, .int .i64 t358, .bool t359, .slice Ao28 t360.length co28] 28 (0, 0)) (by (with_reducible repeat (first | refine blk_drewN ?_ _ | refine blk_drew ?_ | refine blk_alloc ?_ _)); exact BK364.out) hb); have n4_ := Aside0.mk (blk_below (g := gb375) (o := .cells #[.string t365, .int .i64 t366, .int .i64 t367, .int .i64 t368, .int .i64 t369, .bool t370, .slice Ao33 t371.length co33] 28 (0, 0)) (by (with_reducible repeat (first | refine blk_drewN ?_ _ | refine blk_drew ?_ | refine blk_alloc ?_ _)); exact BK375.out) hb); have n5_ := Aside0.mk (below_step (by repeat (first | (with_reducible first | exact HB.out | apply below_alloc | apply pw_below_drewN | apply below_drew1 | refine below_set ?_ GE364.out | refine below_set ?_ GE375.out) | exact HB.out)) hb); clear HO_8; clear HO_365006; clear HO_376006; clear BK364; clear BK375; clear HB; have HO_8 := n0_; have HO_365006 := n1_; have HO_376006 := n2_; have BK364 := n3_; have BK375 := n4_; have HB := n5_; clear n0_ n1_ n2_ n3_ n4_ n5_; (try clear hb); (try clear hb2); (try clear hk); (try clear hi)) | (go_at_call 13; (with_reducible refine (listing_Next.calls kj34 _ _ x8_3 (⟨#[98]⟩ : ByteArray) t377 _ ?side1 ?side2 A39.out).mono ?_); (case side1 => repeat (first | exact (Kd.S_reads' HO_8.out).2.2 | (with_reducible refine Kd.C_alloc ?_ _) | (with_reducible refine Kd.C_drewN ?_ _) | (with_reducible refine Kd.C_drew ?_))); (case side2 => exact (Kd.S_reads' HO_8.out).2.1); rintro e w63 ⟨rfl, hb⟩; have n0_ := Aside0.mk (Kd.S_below (by (with_reducible repeat (first | apply Kd.S_alloc | apply Kd.S_drewN | apply Kd.S_drew)); exact HO_8.out) hb); have n1_ := Aside0.mk (Kd.R_below (by (with_reducible repeat (first | apply Kd.R_alloc | apply Kd.R_drewN | apply Kd.R_drew)); exact HO_365006.out) hb); have n2_ := Aside0.mk (Kd.R_below (by (with_reducible repeat (first | apply Kd.R_alloc | apply Kd.R_drewN | apply Kd.R_drew)); exact HO_376006.out) hb); have n3_ := Aside0.mk (blk_below (g := gb364) (o := .cells #[.string t354, .int .i64 t355, .int .i64 t356, .int .i64 t357, .int .i64 t358, .bool t359, .slice Ao28 t360.length co28] 28 (0, 0)) (by (with_reducible repeat (first | refine blk_drewN ?_ _ | refine blk_drew ?_ | refine blk_alloc ?_ _)); exact BK364.out) hb); have n4_ := Aside0.mk (blk_below (g := gb375) (o := .cells #[.string t365, .int .i64 t366, .int .i64 t367, .int .i64 t368, .int .i64 t369, .bool t370, .slice Ao33 t371.length co33] 28 (0, 0)) (by (with_reducible repeat (first | refine blk_drewN ?_ _ | refine blk_drew ?_ | refine blk_alloc ?_ _)); exact BK375.out) hb); have n5_ := Aside0.mk (below_step (by repeat (first | (with_reducible first | exact HB.out | apply below_alloc | apply pw_below_drewN | apply below_drew1 | refine below_set ?_ GE364.out | refine below_set ?_ GE375.out) | exact HB.out)) hb); clear HO_8; clear HO_365006; clear HO_376006; clear BK364; clear BK375; clear HB; have HO_8 := n0_; have HO_365006 := n1_; have HO_376006 := n2_; have BK364 := n3_; have BK375 := n4_; have HB := n5_; clear n0_ n1_ n2_ n3_ n4_ n5_; (try clear hb); (try clear hb2); (try clear hk); (try clear hi)) | (go_at_call 13; (with_reducible refine (listing_Next.calls kj34 _ _ x8_3 (⟨#[99]⟩ : ByteArray) t378 _ ?side1 ?side2 A41.out).mono ?_); (case side1 => repeat (first | exact (Kd.S_reads' HO_8.out).2.2 | (with_reducible refine Kd.C_alloc ?_ _) | (with_reducible refine Kd.C_drewN ?_ _) | (with_reducible refine Kd.C_drew ?_))); (case side2 => exact (Kd.S_reads' HO_8.out).2.1); rintro e w64 ⟨rfl, hb⟩; have n0_ := Aside0.mk (Kd.S_below (by (with_reducible repeat (first | apply Kd.S_alloc | apply Kd.S_drewN | apply Kd.S_drew)); exact HO_8.out) hb); have n1_ := Aside0.mk (Kd.R_below (by (with_reducible repeat (first | apply Kd.R_alloc | apply Kd.R_drewN | apply Kd.R_drew)); exact HO_365006.out) hb); have n2_ := Aside0.mk (Kd.R_below (by (with_reducible repeat (first | apply Kd.R_alloc | apply Kd.R_drewN | apply Kd.R_drew)); exact HO_376006.out) hb); have n3_ := Aside0.mk (blk_below (g := gb364) (o := .cells #[.string t354, .int .i64 t355, .int .i64 t356, .int .i64 t357, .int .i64 t358, .bool t359, .slice Ao28 t360.length co28] 28 (0, 0)) (by (with_reducible repeat (first | refine blk_drewN ?_ _ | refine blk_drew ?_ | refine blk_alloc ?_ _)); exact BK364.out) hb); have n4_ := Aside0.mk (blk_below (g := gb375) (o := .cells #[.string t365, .int .i64 t366, .int .i64 t367, .int .i64 t368, .int .i64 t369, .bool t370, .slice Ao33 t371.length co33] 28 (0, 0)) (by (with_reducible repeat (first | refine blk_drewN ?_ _ | refine blk_drew ?_ | refine blk_alloc ?_ _)); exact BK375.out) hb); have n5_ := Aside0.mk (below_step (by repeat (first | (with_reducible first | exact HB.out | apply below_alloc | apply pw_below_drewN | apply below_drew1 | refine below_set ?_ GE364.out | refine below_set ?_ GE375.out) | exact HB.out)) hb); clear HO_8; clear HO_365006; clear HO_376006; clear BK364; clear BK375; clear HB; have HO_8 := n0_; have HO_365006 := n1_; have HO_376006 := n2_; have BK364 := n3_; have BK375 := n4_; have HB := n5_; clear n0_ n1_ n2_ n3_ n4_ n5_; (try clear hb); (try clear hb2); (try clear hk); (try clear hi)) | (go_at_call 15; (with_reducible refine (listing_Serial.calls kj34 _ _ x8_3 t379 _ ?side1 ?side2 A43.out).mono ?_); (case side1 => repeat (first | exact (Kd.S_reads' HO_8.out).2.2 | (with_reducible refine Kd.C_alloc ?_ _) | (with_reducible refine Kd.C_drewN ?_ _) | (with_reducible refine Kd.C_drew ?_))); (case side2 => exact (Kd.S_reads' HO_8.out).2.1); rintro e w65 ⟨rfl, hb⟩; have n0_ := Aside0.mk (Kd.S_below (by (with_reducible repeat (first | apply Kd.S_alloc | apply Kd.S_drewN | apply Kd.S_drew)); exact HO_8.out) hb); have n1_ := Aside0.mk (Kd.R_below (by (with_reducible repeat (first | apply Kd.R_alloc | apply Kd.R_drewN | apply Kd.R_drew)); exact HO_365006.out) hb); have n2_ := Aside0.mk (Kd.R_below (by (with_reducible repeat (first | apply Kd.R_alloc | apply Kd.R_drewN | apply Kd.R_drew)); exact HO_376006.out) hb); have n3_ := Aside0.mk (blk_below (g := gb364) (o := .cells #[.string t354, .int .i64 t355, .int .i64 t356, .int .i64 t357, .int .i64 t358, .bool t359, .slice Ao28 t360.length co28] 28 (0, 0)) (by (with_reducible repeat (first | refine blk_drewN ?_ _ | refine blk_drew ?_ | refine blk_alloc ?_ _)); exact BK364.out) hb); have n4_ := Aside0.mk (blk_below (g := gb375) (o := .cells #[.string t365, .int .i64 t366, .int .i64 t367, .int .i64 t368, .int .i64 t369, .bool t370, .slice Ao33 t371.length co33] 28 (0, 0)) (by (with_reducible repeat (first | refine blk_drewN ?_ _ | refine blk_drew ?_ | refine blk_alloc ?_ _)); exact BK375.out) hb); have n5_ := Aside0.mk (below_step (by repeat (first | (with_reducible first | exact HB.out | apply below_alloc | apply pw_below_drewN | apply below_drew1 | refine below_set ?_ GE364.out | refine below_set ?_ GE375.out) | exact HB.out)) hb); clear HO_8; clear HO_365006; clear HO_376006; clear BK364; clear BK375; clear HB; have HO_8 := n0_; have HO_365006 := n1_; have HO_376006 := n2_; have BK364 := n3_; have BK375 := n4_; have HB := n5_; clear n0_ n1_ n2_ n3_ n4_ n5_; (try clear hb); (try clear hb2); (try clear hk); (try clear hi)))
                                    go_ret
                                    exact ⟨by first | rfl | (simp [errW_none, errW_some] <;> rfl) | (simp [*, errW_none, errW_some] <;> rfl), by repeat (first | (with_reducible first | exact HB.out | apply below_alloc | apply pw_below_drewN | apply below_drew1 | refine below_set ?_ GE364.out | refine below_set ?_ GE375.out) | exact HB.out)⟩
                                · rw [if_neg c42] at H
                                  have c42b0 : (t378 == 1) = false := beq_eq_false_iff_ne.mpr c42
                                  have c42b1 : (t378 != 1) = true := bne_iff_ne.mpr c42
                                  obtain rfl := Option.some.inj H
                                  go_wp2_with (first | ((with_reducible refine gate_callee (f := 13) rfl ?_); refine goesL_ (some 93) rfl rfl Try.func13 (by kernel_rfl) rfl #[.slice Ao24 x8_3.length co24, .string (⟨#[97]⟩ : ByteArray)] rfl (by (try simp only [List.map_toArray, List.map_cons, List.map_nil]); first | done | rfl | (simp only [List.length_drop, List.length_take]; rfl)) ?_; (with_reducible refine (listing_Next.calls kj34 _ _ x8_3 (⟨#[97]⟩ : ByteArray) t376 _ ?side1 ?side2 A37.out).mono ?_); (case side1 => repeat (first | exact (Kd.S_reads' HO_8.out).2.2 | (with_reducible refine Kd.C_alloc ?_ _) | (with_reducible refine Kd.C_drewN ?_ _) | (with_reducible refine Kd.C_drew ?_))); (case side2 => exact (Kd.S_reads' HO_8.out).2.1); rintro e w66 ⟨rfl, hb⟩; refine ⟨_, rfl, ?_⟩; have n0_ := Aside0.mk (Kd.S_below (by (with_reducible repeat (first | apply Kd.S_alloc | apply Kd.S_drewN | apply Kd.S_drew)); exact HO_8.out) hb); have n1_ := Aside0.mk (Kd.R_below (by (with_reducible repeat (first | apply Kd.R_alloc | apply Kd.R_drewN | apply Kd.R_drew)); exact HO_365006.out) hb); have n2_ := Aside0.mk (Kd.R_below (by (with_reducible repeat (first | apply Kd.R_alloc | apply Kd.R_drewN | apply Kd.R_drew)); exact HO_376006.out) hb); have n3_ := Aside0.mk (blk_below (g := gb364) (o := .cells #[.string t354, .int .i64 t355, .int .i64 t356, .int .i64 t357, .int .i64 t358, .bool t359, .slice Ao28 t360.length co28] 28 (0, 0)) (by (with_reducible repeat (first | refine blk_drewN ?_ _ | refine blk_drew ?_ | refine blk_alloc ?_ _)); exact BK364.out) hb); have n4_ := Aside0.mk (blk_below (g := gb375) (o := .cells #[.string t365, .int .i64 t366, .int .i64 t367, .int .i64 t368, .int .i64 t369, .bool t370, .slice Ao33 t371.length co33] 28 (0, 0)) (by (with_reducible repeat (first | refine blk_drewN ?_ _ | refine blk_drew ?_ | refine blk_alloc ?_ _)); exact BK375.out) hb); have n5_ := Aside0.mk (below_step (by repeat (first | (with_reducible first | exact HB.out | apply below_alloc | apply pw_below_drewN | apply below_drew1 | refine below_set ?_ GE364.out | refine below_set ?_ GE375.out) | exact HB.out)) hb); clear HO_8; clear HO_365006; clear HO_376006; clear BK364; clear BK375; clear HB; have HO_8 := n0_; have HO_365006 := n1_; have HO_376006 := n2_; have BK364 := n3_; have BK375 := n4_; have HB := n5_; clear n0_ n1_ n2_ n3_ n4_ n5_; (try clear hb); (try clear hb2); (try clear hk); (try clear hi)) | (go_at_call 13; (with_reducible refine (listing_Next.calls kj34 _ _ x8_3 (⟨#[98]⟩ : ByteArray) t377 _ ?side1 ?side2 A39.out).mono ?_); (case side1 => repeat (first | exact (Kd.S_reads' HO_8.out).2.2 | (with_reducible refine Kd.C_alloc ?_ _) | (with_reducible refine Kd.C_drewN ?_ _) | (with_reducible refine Kd.C_drew ?_))); (case side2 => exact (Kd.S_reads' HO_8.out).2.1); rintro e w67 ⟨rfl, hb⟩; have n0_ := Aside0.mk (Kd.S_below (by (with_reducible repeat (first | apply Kd.S_alloc | apply Kd.S_drewN | apply Kd.S_drew)); exact HO_8.out) hb); have n1_ := Aside0.mk (Kd.R_below (by (with_reducible repeat (first | apply Kd.R_alloc | apply Kd.R_drewN | apply Kd.R_drew)); exact HO_365006.out) hb); have n2_ := Aside0.mk (Kd.R_below (by (with_reducible repeat (first | apply Kd.R_alloc | apply Kd.R_drewN | apply Kd.R_drew)); exact HO_376006.out) hb); have n3_ := Aside0.mk (blk_below (g := gb364) (o := .cells #[.string t354, .int .i64 t355, .int .i64 t356, .int .i64 t357, .int .i64 t358, .bool t359, .slice Ao28 t360.length co28] 28 (0, 0)) (by (with_reducible repeat (first | refine blk_drewN ?_ _ | refine blk_drew ?_ | refine blk_alloc ?_ _)); exact BK364.out) hb); have n4_ := Aside0.mk (blk_below (g := gb375) (o := .cells #[.string t365, .int .i64 t366, .int .i64 t367, .int .i64 t368, .int .i64 t369, .bool t370, .slice Ao33 t371.length co33] 28 (0, 0)) (by (with_reducible repeat (first | refine blk_drewN ?_ _ | refine blk_drew ?_ | refine blk_alloc ?_ _)); exact BK375.out) hb); have n5_ := Aside0.mk (below_step (by repeat (first | (with_reducible first | exact HB.out | apply below_alloc | apply pw_below_drewN | apply below_drew1 | refine below_set ?_ GE364.out | refine below_set ?_ GE375.out) | exact HB.out)) hb); clear HO_8; clear HO_365006; clear HO_376006; clear BK364; clear BK375; clear HB; have HO_8 := n0_; have HO_365006 := n1_; have HO_376006 := n2_; have BK364 := n3_; have BK375 := n4_; have HB := n5_; clear n0_ n1_ n2_ n3_ n4_ n5_; (try clear hb); (try clear hb2); (try clear hk); (try clear hi)) | (go_at_call 13; (with_reducible refine (listing_Next.calls kj34 _ _ x8_3 (⟨#[99]⟩ : ByteArray) t378 _ ?side1 ?side2 A41.out).mono ?_); (case side1 => repeat (first | exact (Kd.S_reads' HO_8.out).2.2 | (with_reducible refine Kd.C_alloc ?_ _) | (with_reducible refine Kd.C_drewN ?_ _) | (with_reducible refine Kd.C_drew ?_))); (case side2 => exact (Kd.S_reads' HO_8.out).2.1); rintro e w68 ⟨rfl, hb⟩; have n0_ := Aside0.mk (Kd.S_below (by (with_reducible repeat (first | apply Kd.S_alloc | apply Kd.S_drewN | apply Kd.S_drew)); exact HO_8.out) hb); have n1_ := Aside0.mk (Kd.R_below (by (with_reducible repeat (first | apply Kd.R_alloc | apply Kd.R_drewN | apply Kd.R_drew)); exact HO_365006.out) hb); have n2_ := Aside0.mk (Kd.R_below (by (with_reducible repeat (first | apply Kd.R_alloc | apply Kd.R_drewN | apply Kd.R_drew)); exact HO_376006.out) hb); have n3_ := Aside0.mk (blk_below (g := gb364) (o := .cells #[.string t354, .int .i64 t355, .int .i64 t356, .int .i64 t357, .int .i64 t358, .bool t359, .slice Ao28 t360.length co28] 28 (0, 0)) (by (with_reducible repeat (first | refine blk_drewN ?_ _ | refine blk_drew ?_ | refine blk_alloc ?_ _)); exact BK364.out) hb); have n4_ := Aside0.mk (blk_below (g := gb375) (o := .cells #[.string t365, .int .i64 t366, .int .i64 t367, .int .i64 t368, .int .i64 t369, .bool t370, .slice Ao33 t371.length co33] 28 (0, 0)) (by (with_reducible repeat (first | refine blk_drewN ?_ _ | refine blk_drew ?_ | refine blk_alloc ?_ _)); exact BK375.out) hb); have n5_ := Aside0.mk (below_step (by repeat (first | (with_reducible first | exact HB.out | apply below_alloc | apply pw_below_drewN | apply below_drew1 | refine below_set ?_ GE364.out | refine below_set ?_ GE375.out) | exact HB.out)) hb); clear HO_8; clear HO_365006; clear HO_376006; clear BK364; clear BK375; clear HB; have HO_8 := n0_; have HO_365006 := n1_; have HO_376006 := n2_; have BK364 := n3_; have BK375 := n4_; have HB := n5_; clear n0_ n1_ n2_ n3_ n4_ n5_; (try clear hb); (try clear hb2); (try clear hk); (try clear hi)))
                                  go_ret
                                  exact ⟨by first | rfl | (simp [errW_none, errW_some] <;> rfl) | (simp [*, errW_none, errW_some] <;> rfl), by repeat (first | (with_reducible first | exact HB.out | apply below_alloc | apply pw_below_drewN | apply below_drew1 | refine below_set ?_ GE364.out | refine below_set ?_ GE375.out) | exact HB.out)⟩
                              · rw [if_neg c40] at H
                                have c40b0 : (t377 == (wrap64 (a1 + 1))) = false := beq_eq_false_iff_ne.mpr c40
                                have c40b1 : (t377 != (wrap64 (a1 + 1))) = true := bne_iff_ne.mpr c40
                                obtain rfl := Option.some.inj H
                                go_wp2_with (first | ((with_reducible refine gate_callee (f := 13) rfl ?_); refine goesL_ (some 93) rfl rfl Try.func13 (by kernel_rfl) rfl #[.slice Ao24 x8_3.length co24, .string (⟨#[97]⟩ : ByteArray)] rfl (by (try simp only [List.map_toArray, List.map_cons, List.map_nil]); first | done | rfl | (simp only [List.length_drop, List.length_take]; rfl)) ?_; (with_reducible refine (listing_Next.calls kj34 _ _ x8_3 (⟨#[97]⟩ : ByteArray) t376 _ ?side1 ?side2 A37.out).mono ?_); (case side1 => repeat (first | exact (Kd.S_reads' HO_8.out).2.2 | (with_reducible refine Kd.C_alloc ?_ _) | (with_reducible refine Kd.C_drewN ?_ _) | (with_reducible refine Kd.C_drew ?_))); (case side2 => exact (Kd.S_reads' HO_8.out).2.1); rintro e w69 ⟨rfl, hb⟩; refine ⟨_, rfl, ?_⟩; have n0_ := Aside0.mk (Kd.S_below (by (with_reducible repeat (first | apply Kd.S_alloc | apply Kd.S_drewN | apply Kd.S_drew)); exact HO_8.out) hb); have n1_ := Aside0.mk (Kd.R_below (by (with_reducible repeat (first | apply Kd.R_alloc | apply Kd.R_drewN | apply Kd.R_drew)); exact HO_365006.out) hb); have n2_ := Aside0.mk (Kd.R_below (by (with_reducible repeat (first | apply Kd.R_alloc | apply Kd.R_drewN | apply Kd.R_drew)); exact HO_376006.out) hb); have n3_ := Aside0.mk (blk_below (g := gb364) (o := .cells #[.string t354, .int .i64 t355, .int .i64 t356, .int .i64 t357, .int .i64 t358, .bool t359, .slice Ao28 t360.length co28] 28 (0, 0)) (by (with_reducible repeat (first | refine blk_drewN ?_ _ | refine blk_drew ?_ | refine blk_alloc ?_ _)); exact BK364.out) hb); have n4_ := Aside0.mk (blk_below (g := gb375) (o := .cells #[.string t365, .int .i64 t366, .int .i64 t367, .int .i64 t368, .int .i64 t369, .bool t370, .slice Ao33 t371.length co33] 28 (0, 0)) (by (with_reducible repeat (first | refine blk_drewN ?_ _ | refine blk_drew ?_ | refine blk_alloc ?_ _)); exact BK375.out) hb); have n5_ := Aside0.mk (below_step (by repeat (first | (with_reducible first | exact HB.out | apply below_alloc | apply pw_below_drewN | apply below_drew1 | refine below_set ?_ GE364.out | refine below_set ?_ GE375.out) | exact HB.out)) hb); clear HO_8; clear HO_365006; clear HO_376006; clear BK364; clear BK375; clear HB; have HO_8 := n0_; have HO_365006 := n1_; have HO_376006 := n2_; have BK364 := n3_; have BK375 := n4_; have HB := n5_; clear n0_ n1_ n2_ n3_ n4_ n5_; (try clear hb); (try clear hb2); (try clear hk); (try clear hi)) | (go_at_call 13; (with_reducible refine (listing_Next.calls kj34 _ _ x8_3 (⟨#[98]⟩ : ByteArray) t377 _ ?side1 ?side2 A39.out).mono ?_); (case side1 => repeat (first | exact (Kd.S_reads' HO_8.out).2.2 | (with_reducible refine Kd.C_alloc ?_ _) | (with_reducible refine Kd.C_drewN ?_ _) | (with_reducible refine Kd.C_drew ?_))); (case side2 => exact (Kd.S_reads' HO_8.out).2.1); rintro e w70 ⟨rfl, hb⟩; have n0_ := Aside0.mk (Kd.S_below (by (with_reducible repeat (first | apply Kd.S_alloc | apply Kd.S_drewN | apply Kd.S_drew)); exact HO_8.out) hb); have n1_ := Aside0.mk (Kd.R_below (by (with_reducible repeat (first | apply Kd.R_alloc | apply Kd.R_drewN | apply Kd.R_drew)); exact HO_365006.out) hb); have n2_ := Aside0.mk (Kd.R_below (by (with_reducible repeat (first | apply Kd.R_alloc | apply Kd.R_drewN | apply Kd.R_drew)); exact HO_376006.out) hb); have n3_ := Aside0.mk (blk_below (g := gb364) (o := .cells #[.string t354, .int .i64 t355, .int .i64 t356, .int .i64 t357, .int .i64 t358, .bool t359, .slice Ao28 t360.length co28] 28 (0, 0)) (by (with_reducible repeat (first | refine blk_drewN ?_ _ | refine blk_drew ?_ | refine blk_alloc ?_ _)); exact BK364.out) hb); have n4_ := Aside0.mk (blk_below (g := gb375) (o := .cells #[.string t365, .int .i64 t366, .int .i64 t367, .int .i64 t368, .int .i64 t369, .bool t370, .slice Ao33 t371.length co33] 28 (0, 0)) (by (with_reducible repeat (first | refine blk_drewN ?_ _ | refine blk_drew ?_ | refine blk_alloc ?_ _)); exact BK375.out) hb); have n5_ := Aside0.mk (below_step (by repeat (first | (with_reducible first | exact HB.out | apply below_alloc | apply pw_below_drewN | apply below_drew1 | refine below_set ?_ GE364.out | refine below_set ?_ GE375.out) | exact HB.out)) hb); clear HO_8; clear HO_365006; clear HO_376006; clear BK364; clear BK375; clear HB; have HO_8 := n0_; have HO_365006 := n1_; have HO_376006 := n2_; have BK364 := n3_; have BK375 := n4_; have HB := n5_; clear n0_ n1_ n2_ n3_ n4_ n5_; (try clear hb); (try clear hb2); (try clear hk); (try clear hi)))
                                go_ret
                                exact ⟨by first | rfl | (simp [errW_none, errW_some] <;> rfl) | (simp [*, errW_none, errW_some] <;> rfl), by repeat (first | (with_reducible first | exact HB.out | apply below_alloc | apply pw_below_drewN | apply below_drew1 | refine below_set ?_ GE364.out | refine below_set ?_ GE375.out) | exact HB.out)⟩
                            · rw [if_neg c38] at H
                              have c38b0 : (t376 == (wrap64 (a0 + 1))) = false := beq_eq_false_iff_ne.mpr c38
                              have c38b1 : (t376 != (wrap64 (a0 + 1))) = true := bne_iff_ne.mpr c38
                              obtain rfl := Option.some.inj H
                              go_wp2_with (first | ((with_reducible refine gate_callee (f := 13) rfl ?_); refine goesL_ (some 93) rfl rfl Try.func13 (by kernel_rfl) rfl #[.slice Ao24 x8_3.length co24, .string (⟨#[97]⟩ : ByteArray)] rfl (by (try simp only [List.map_toArray, List.map_cons, List.map_nil]); first | done | rfl | (simp only [List.length_drop, List.length_take]; rfl)) ?_; (with_reducible refine (listing_Next.calls kj34 _ _ x8_3 (⟨#[97]⟩ : ByteArray) t376 _ ?side1 ?side2 A37.out).mono ?_); (case side1 => repeat (first | exact (Kd.S_reads' HO_8.out).2.2 | (with_reducible refine Kd.C_alloc ?_ _) | (with_reducible refine Kd.C_drewN ?_ _) | (with_reducible refine Kd.C_drew ?_))); (case side2 => exact (Kd.S_reads' HO_8.out).2.1); rintro e w71 ⟨rfl, hb⟩; refine ⟨_, rfl, ?_⟩; have n0_ := Aside0.mk (Kd.S_below (by (with_reducible repeat (first | apply Kd.S_alloc | apply Kd.S_drewN | apply Kd.S_drew)); exact HO_8.out) hb); have n1_ := Aside0.mk (Kd.R_below (by (with_reducible repeat (first | apply Kd.R_alloc | apply Kd.R_drewN | apply Kd.R_drew)); exact HO_365006.out) hb); have n2_ := Aside0.mk (Kd.R_below (by (with_reducible repeat (first | apply Kd.R_alloc | apply Kd.R_drewN | apply Kd.R_drew)); exact HO_376006.out) hb); have n3_ := Aside0.mk (blk_below (g := gb364) (o := .cells #[.string t354, .int .i64 t355, .int .i64 t356, .int .i64 t357, .int .i64 t358, .bool t359, .slice Ao28 t360.length co28] 28 (0, 0)) (by (with_reducible repeat (first | refine blk_drewN ?_ _ | refine blk_drew ?_ | refine blk_alloc ?_ _)); exact BK364.out) hb); have n4_ := Aside0.mk (blk_below (g := gb375) (o := .cells #[.string t365, .int .i64 t366, .int .i64 t367, .int .i64 t368, .int .i64 t369, .bool t370, .slice Ao33 t371.length co33] 28 (0, 0)) (by (with_reducible repeat (first | refine blk_drewN ?_ _ | refine blk_drew ?_ | refine blk_alloc ?_ _)); exact BK375.out) hb); have n5_ := Aside0.mk (below_step (by repeat (first | (with_reducible first | exact HB.out | apply below_alloc | apply pw_below_drewN | apply below_drew1 | refine below_set ?_ GE364.out | refine below_set ?_ GE375.out) | exact HB.out)) hb); clear HO_8; clear HO_365006; clear HO_376006; clear BK364; clear BK375; clear HB; have HO_8 := n0_; have HO_365006 := n1_; have HO_376006 := n2_; have BK364 := n3_; have BK375 := n4_; have HB := n5_; clear n0_ n1_ n2_ n3_ n4_ n5_; (try clear hb); (try clear hb2); (try clear hk); (try clear hi)))
                              go_ret
                              exact ⟨by first | rfl | (simp [errW_none, errW_some] <;> rfl) | (simp [*, errW_none, errW_some] <;> rfl), by repeat (first | (with_reducible first | exact HB.out | apply below_alloc | apply pw_below_drewN | apply below_drew1 | refine below_set ?_ GE364.out | refine below_set ?_ GE375.out) | exact HB.out)⟩

/-- THE ONE PURE STATEMENT of cartridgelaw18_ListingNext: yours. -/
def cartridgelaw18_ListingNext.Pure : Prop := ∀ (a0 : Int) (a1 : Int) (a2 : Bool), (Lit.int .i64 a0).wf = true → (Lit.int .i64 a1).wf = true → ∃ k, cartridgelaw18_ListingNext.f k a0 a1 a2 = some true
theorem cartridgelaw18_ListingNext.walk (P : cartridgelaw18_ListingNext.Pure) (a0 : Int) (a1 : Int) (a2 : Bool) (w : World) (w0 : (Lit.int .i64 a0).wf = true) (w1 : (Lit.int .i64 a1).wf = true) :
    Calls Try.prog 5 #[.int .i64 a0, .int .i64 a1, .bool a2] w fun e w' => e = .returned (.bool true) ∧ Below w.heap.size w w' := by
  obtain ⟨k, h⟩ := P a0 a1 a2 w0 w1
  refine (cartridgelaw18_ListingNext.calls k a0 a1 a2 true w h).mono ?_
  rintro e w' ⟨rfl, hd⟩
  exact ⟨rfl, hd⟩

end Go.Proofs.Ytjmbedbapoofdaa.P
