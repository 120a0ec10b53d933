/- path.Right and path.Parts: what they answer, and what their calls leave, in the print's own form. -/
import Derived.Test.YtjhbannlgaiipaaDoorPx0
import Derived.Test.YtjhbannlgaiipaaDoorMPathSpec
import Derived.Test.YtjhbannlgaiipaaDoorShelf
import Derived.Lib.Hide
import Derived.Shelf.GgClosure.Gives
namespace Go.Proofs.YtjhbannlgaiipaaDoor.P
open Go.RowKit Go.Proofs.YtjhbannlgaiipaaDoorW.PrintWords Go.Proofs.YtjhbannlgaiipaaDoorW.PrintLast Go.Proofs.YtjhbannlgaiipaaDoorW.PrintMore
set_option linter.unusedVariables false
set_option linter.unusedSimpArgs false
open Go.Shelf Go.Lib Go.Proofs

/-- strings.Split at a sep of one byte: no bound on a variable is asked. -/
theorem Any_split_one {P : Program} {ρ : Ren} (L : Lays.n146 P ρ) (hi9 : (P.info? (ρ.t 9)).map (fun i => (i.zero, i.size, i.bytes)) = some (some (.string ByteArray.empty), 1, 16)) (s : ByteArray) (c : UInt8) (w : World) (hs : s.size < 4294967281) :
    Calls P (ρ.f 146) #[.string s, .string ⟨#[c]⟩] w fun e w' =>
      e = .returned (.slice (some ⟨w.heap.size, 0, none⟩) (Lib.countB s ⟨#[c]⟩ + 1) (Lib.countB s ⟨#[c]⟩ + 1)) ∧ w' = w.alloc (.cells ((Lib.splitB ⟨#[c]⟩ 0 (Lib.countB s ⟨#[c]⟩) s).map Value.string).toArray (ρ.t 9)) := by
  have h1 : 1 ≤ (⟨#[c]⟩ : ByteArray).size := Nat.le_refl 1
  have hle := Lib.countB_le ⟨#[c]⟩ h1 s.size s (Nat.le_refl _)
  have hlen := Lib.splitB_all ⟨#[c]⟩ h1 0 _ s rfl
  have hix : ∀ x : ByteArray, Lib.indexByte x.data.toList c = Lib.indexB x ⟨#[c]⟩ := fun x => (Lib.index_one x.data.toList c).symm
  have hct : Lib.countByte s.data.toList c = Lib.countB s ⟨#[c]⟩ := (Lib.count_one c s.data.toList).symm
  have cc := Any.strings_genSplit_core { L with } hi9 s ⟨#[c]⟩ 0 (-1) (Lib.countB s ⟨#[c]⟩ + 1) w hs h1 (Nat.zero_le _)
    (fun x _ _ => (Any.strings_Index_one { L with } x c _).mono fun e w' ⟨he, hw⟩ => ⟨by rw [he, hix], hw⟩)
    ((Any.strings_Count_one { L with } s c w).mono fun e w' ⟨he, hw⟩ => ⟨by rw [he, hct], hw⟩)
    (by decide) (by decide) (by rw [if_pos (by decide)]; omega)
  rw [Nat.add_sub_cancel, hlen] at cc
  have e2 : Lib.cellsOf (Lib.splitB ⟨#[c]⟩ 0 (Lib.countB s ⟨#[c]⟩) s) (Lib.countB s ⟨#[c]⟩ + 1) = ((Lib.splitB ⟨#[c]⟩ 0 (Lib.countB s ⟨#[c]⟩) s).map Value.string).toArray := by rw [← hlen]; exact Lib.cellsOf_full _
  rw [e2] at cc
  clear hle hlen hix hct e2 h1
  have t3 := L.t3; have t9 := L.t9; have t31 := L.t31
  have a3 := L.a3; have a9 := L.a9; have a31 := L.a31
  have z3 := L.z3; have v3 := L.v3; have z9 := L.z9; have v9 := L.v9; have z31 := L.z31; have v31 := L.v31
  have e221 : ∀ args w, (callFunc (ρ.f 221) args).run P w = .ok (.enter (ρ.f 221) args) w := enters_of L.f221 (by kernel_rfl) rfl
  go_enter L.f146, Body.n146_ntmps ρ
  go_wp2_with (go_at_fn (ρ.f 221); refine cc.mono ?_; rintro e w' ⟨rfl, hw⟩; rw [hw])
  go_ret
  exact ⟨rfl, rfl⟩

/-- The pieces between the signs 47. -/
def pieces (s : ByteArray) : List ByteArray := Lib.splitB ⟨#[47]⟩ 0 (Lib.countB s ⟨#[47]⟩) s
theorem pieces_sp (s : ByteArray) : (pieces s).map (·.data.toList) = sp [] s.data.toList := split_sp s
theorem pieces_len (s : ByteArray) : (pieces s).length = Lib.countB s ⟨#[47]⟩ + 1 := Lib.splitB_all ⟨#[47]⟩ (Nat.le_refl 1) 0 _ s rfl

theorem pm_ret_bool {a b : Bool} (h : a = b) : Ending.returned (.bool a) = .returned (.bool b) := by rw [h]
def pOther (c : Nat) : Bool := ((c < 97 || 122 < c) && (c < 48 || 57 < c)) && !(c == 46) && !(c == 45) && !(c == 95)
theorem other_any (r : Nat) (W : World) : FnGives Tryd.prog 21 #[] #[encR r] (.bool (pOther r)) W := by
  unfold FnGives
  go_enter Tryd.func21, Tryd.ntmps21
  go_wp2
  all_goals
    go_ret
    refine ⟨pm_ret_bool ?_, 0, rfl⟩
    rw [Bool.eq_iff_iff]
    simp [pOther]
    omega

def pWrong (s : ByteArray) : Bool := s.toList == [] || s.toList == [46] || s.toList == [46, 46] || decide (0 ≤ Lib.idxFunc pOther true s)
set_option maxHeartbeats 1000000 in
theorem wrong_any (s : ByteArray) (w : World) : Calls Tryd.prog 16 #[.string s] w fun e w' => e = .returned (.bool (pWrong s)) ∧ Below w.heap.size w w' := by
  have eg := enters_of Tryd.func21 (by kernel_rfl) rfl
  have hC := fun W => Tryd.strings_ContainsFunc 21 #[] eg pOther s W (fun W r _ => other_any r W)
  clear eg
  have hq : ∃ q, pWrong s = (s.toList == [] || s.toList == [46] || s.toList == [46, 46] || q) ∧ decide (0 ≤ Lib.idxFunc pOther true s) = q := ⟨_, rfl, rfl⟩
  obtain ⟨q, hp, hq⟩ := hq
  rw [hq] at hC
  have Hp := Lib.hid hp
  clear hp hq
  go_enter Tryd.func16, Tryd.ntmps16
  go_wp2_with (go_at_call 20; refine (hC _).mono ?_; rintro e w' ⟨rfl, hb⟩)
  all_goals
    go_ret
    refine ⟨pm_ret_bool ?_, ?_⟩
    · rw [Hp.out]; simp [*]
    · first | exact Below.refl _ _ | assumption

theorem wrong_eg : ∀ args w, (callFunc 16 args).run Tryd.prog w = .ok (.enter 16 args) w := enters_of Tryd.func16 (by kernel_rfl) rfl

set_option maxHeartbeats 2000000 in
/-- slices.IndexFunc over strings by 'wrong', which makes memory of its own. -/
theorem index_wrong (b n c : Nat) (zs : List ByteArray) (w : World) (hz : zs.length = n) (hbig : n ≤ 9223372036854775807) (hc : ∀ j, j < zs.length → w.cell? ⟨b, j, none⟩ = some (.string zs[j]!)) :
    Calls Tryd.prog 18 #[.slice (some ⟨b, 0, none⟩) n c, .func (.func 16) #[] #[]] w fun e w' => (∃ i : Int, e = .returned (.int .i64 i) ∧ decide (0 ≤ i) = zs.any pWrong) ∧ Below w.heap.size w w' := by
  have hw := wrong_any
  have eg := wrong_eg
  go_enter Tryd.func18, Tryd.ntmps18
  go_wp2
  go_loopg [5, 8] n (fun gg _ s8 wr => ∃ kk : Nat, kk ≤ n ∧ n - kk ≤ gg ∧ s8 = .int .i64 kk ∧ Below w.heap.size w wr ∧ Aside (∀ j, j < kk → pWrong zs[j]! = false))
  case atStart => exact ⟨0, Nat.zero_le _, by omega, rfl, Below.refl _ _, fun j hj => absurd hj (Nat.not_lt_zero _)⟩
  case round =>
    obtain ⟨kk, hkk, hg, rfl, hB, A⟩ := hrel
    by_cases hlt : kk < n
    · have hltz : (kk : Int) < (n : Int) := by omega
      have hcell : wr.cell? ⟨b, kk, none⟩ = some (.string zs[kk]!) := by
        have h0 := hc kk (by omega)
        exact (hB.cell (p := ⟨b, kk, none⟩) (World.block_lt_of_cell? w _ h0)).trans h0
      clear hc
      generalize hy : zs[kk]! = y at hcell
      have B : Aside (zs[kk]! = y) := hy
      clear hy
      have hcall := hw y
      clear hw
      cases hq : pWrong y with
      | true =>
        rw [hq] at hcall
        go_wp2_with (go_at_fn 16; refine (hcall _).mono ?_; rintro e w' ⟨rfl, hb'⟩)
        go_ret
        refine ⟨⟨kk, rfl, ?_⟩, hB.trans (hb'.mono hB.size)⟩
        rw [show decide ((0 : Int) ≤ (kk : Int)) = true from by simp]
        refine (List.any_eq_true.2 ⟨zs[kk]!, ?_, by rw [B.out]; exact hq⟩).symm
        rw [getElem!_pos zs kk (by omega)]
        exact List.getElem_mem _
      | false =>
        rw [hq] at hcall
        go_wp2_with (go_at_fn 16; refine (hcall _).mono ?_; rintro e w' ⟨rfl, hb'⟩)
        go_roundg (n - (kk + 1))
        case measure => omega
        case rel =>
          refine ⟨kk + 1, by omega, by omega, by go_num, hB.trans (hb'.mono hB.size), (show Aside _ from fun j hj => ?_)⟩
          by_cases e : j = kk
          · subst e
            rw [B.out]; exact hq
          · exact A.out j (by omega)
    · have hltz : ¬ (kk : Int) < (n : Int) := by omega
      have : kk = n := by omega
      subst this
      go_wp2
      go_ret
      refine ⟨⟨-1, rfl, ?_⟩, hB⟩
      rw [show decide ((0 : Int) ≤ -1) = false from rfl, eq_comm, List.any_eq_false]
      intro x hx
      obtain ⟨j, hj, rfl⟩ := List.mem_iff_getElem.1 hx
      have := A.out j (by omega)
      rw [getElem!_pos zs j hj] at this
      rw [this]; simp

set_option maxHeartbeats 1000000 in
theorem contains_wrong (b n c : Nat) (zs : List ByteArray) (w : World) (hz : zs.length = n) (hbig : n ≤ 9223372036854775807) (hc : ∀ j, j < zs.length → w.cell? ⟨b, j, none⟩ = some (.string zs[j]!)) :
    Calls Tryd.prog 14 #[.slice (some ⟨b, 0, none⟩) n c, .func (.func 16) #[] #[]] w fun e w' => e = .returned (.bool (zs.any pWrong)) ∧ Below w.heap.size w w' := by
  have h := index_wrong b n c zs w hz hbig hc
  obtain ⟨q, hq⟩ : ∃ q, zs.any pWrong = q := ⟨_, rfl⟩
  rw [hq] at h ⊢
  clear hc hz hq
  go_enter Tryd.func14, Tryd.ntmps14
  go_wp2_with (go_at_call 18; refine h.mono ?_; rintro e w' ⟨⟨i, rfl, hi⟩, hb⟩; (have Hi := Lib.hid hi; clear hi))
  go_ret
  exact ⟨pm_ret_bool Hi.out, hb⟩

def rightB (s : ByteArray) : Bool := decide (s.size ≤ 24) && !(pieces s).any pWrong
def path_Right.f (a0 : ByteArray) : Option Bool := some (rightB a0)

set_option maxHeartbeats 2000000 in
theorem path_Right.calls (a0 : ByteArray) (r : Bool) (w : World) (h : path_Right.f a0 = some r) :
    Calls Tryd.prog 7 #[.string a0] w fun e w' => e = .returned (.bool r) ∧ Below w.heap.size w w' := by
  obtain rfl := Option.some.inj h
  clear h
  by_cases hs : a0.size ≤ 24
  · have cs := fun W => Any_split_one Tryd.lays146 (by kernel_rfl) a0 47 W (show a0.size < 4294967281 by omega)
    have hl := pieces_len a0
    have hle := Lib.countB_le ⟨#[47]⟩ (Nat.le_refl 1) a0.size a0 (Nat.le_refl _)
    obtain ⟨n, hn⟩ : ∃ n, Lib.countB a0 ⟨#[47]⟩ + 1 = n := ⟨_, rfl⟩
    have hr : rightB a0 = !(pieces a0).any pWrong := by simp [rightB, hs]
    rw [hr]
    change ∀ W, Calls _ _ _ W (fun e w' => e = .returned (.slice (some ⟨W.heap.size, 0, none⟩) (Lib.countB a0 ⟨#[47]⟩ + 1) (Lib.countB a0 ⟨#[47]⟩ + 1)) ∧ w' = W.alloc (.cells ((pieces a0).map Value.string).toArray 9)) at cs
    rw [hn] at hl cs
    have hn2 : n ≤ 9223372036854775807 := by omega
    generalize pieces a0 = zs at hl cs ⊢
    have hcw := fun (W : World) (hc : ∀ j, j < zs.length → W.cell? ⟨w.heap.size, j, none⟩ = some (.string zs[j]!)) => contains_wrong w.heap.size n n zs W hl hn2 hc
    obtain ⟨q, hq⟩ : ∃ q, zs.any pWrong = q := ⟨_, rfl⟩
    rw [hq] at hcw ⊢
    have hcell : ∀ j, j < zs.length → (w.alloc (.cells (zs.map Value.string).toArray 9)).cell? ⟨w.heap.size, j, none⟩ = some (.string zs[j]!) := by
      intro j hj
      have : w.heap.size = w.heap.size := rfl
      rw [World.cell?_alloc_new]
      rw [getElem!_pos zs j hj]
      simp [hj]
    have hcw2 := hcw _ hcell
    have hB : Below w.heap.size w (w.alloc (.cells (zs.map Value.string).toArray 9)) := (Below.refl _ _).alloc (Nat.le_refl _) _
    generalize hW : w.alloc (.cells (zs.map Value.string).toArray 9) = W1 at hcw2 hB
    have HW := Lib.hid hW
    have HQ := Lib.hid hq
    have HL := Lib.hid hl
    have HN := Lib.hid hn
    clear hcw hcell hq hl hn hr hW hle hn2
    go_enter Tryd.func7, Tryd.ntmps7
    go_wp2_with (first | (go_at_call 15; refine (cs _).mono ?_; rintro e w' ⟨rfl, hw'⟩; rw [HW.out] at hw'; subst hw'; clear cs) | (go_at_call 14; refine hcw2.mono ?_; rintro e w' ⟨rfl, hb⟩))
    go_ret
    exact ⟨by rw [← HQ.out] <;> rfl, hB.trans (hb.mono hB.size)⟩
  · have hr : rightB a0 = false := by simp [rightB, hs]
    rw [hr]
    clear hr
    have hs' : ¬ ((a0.size : Int) ≤ 24) := by omega
    go_enter Tryd.func7, Tryd.ntmps7
    go_wp2_with fail
    go_ret
    exact ⟨rfl, Below.refl _ _⟩

theorem own_new_strs (w : World) (zs : List ByteArray) (T : TypeId) (hm : zs.length ≤ maxLen) : (w.alloc (.cells (zs.map Value.string).toArray T)).ownsRow w.heap.size T 1 (.slice (some ⟨w.heap.size, 0, none⟩) zs.length zs.length) zs.length (encs Value.string zs) :=
  ⟨by simp [encs], .inr ⟨w.heap.size, zs.length, (zs.map Value.string).toArray, rfl, Nat.le_refl _, by simpa using heap_alloc_new w _, Nat.le_refl _, hm, by simp, by rw [List.take_of_length_le (by simp)]; rfl⟩⟩

def path_Parts.f (a0 : ByteArray) : Option (List ByteArray) := some (if rightB a0 then pieces a0 else [])

set_option maxHeartbeats 2000000 in
theorem path_Parts.calls (a0 : ByteArray) (r : List ByteArray) (w : World) (h : path_Parts.f a0 = some r) :
    Calls Tryd.prog 10 #[.string a0] w fun e w' => ∃ v0_ : Value, e = .returned (v0_) ∧ Kd.R Kd.string 9 w' w.heap.size (fun _ => True) v0_ r ∧ Below w.heap.size w w' := by
  have hr := Option.some.inj h
  clear h
  have hR := fun W => path_Right.calls a0 (rightB a0) W rfl
  cases hb : rightB a0 with
  | false =>
    rw [hb] at hr hR
    simp only [Bool.false_eq_true, if_false] at hr
    subst hr
    clear hb
    go_enter Tryd.func10, Tryd.ntmps10
    go_wp2_with (go_at_call 7; refine (hR _).mono ?_; rintro e w' ⟨rfl, hb⟩)
    go_ret
    exact ⟨_, rfl, Kd.R_nil _ _ _ _ _, hb⟩
  | true =>
    have hs : a0.size ≤ 24 := by simp [rightB] at hb; exact hb.1
    rw [hb] at hr hR
    simp only [if_true] at hr
    clear hb
    have cs := fun W => Any_split_one Tryd.lays146 (by kernel_rfl) a0 47 W (show a0.size < 4294967281 by omega)
    have hl := pieces_len a0
    have hle := Lib.countB_le ⟨#[47]⟩ (Nat.le_refl 1) a0.size a0 (Nat.le_refl _)
    obtain ⟨n, hn⟩ : ∃ n, Lib.countB a0 ⟨#[47]⟩ + 1 = n := ⟨_, rfl⟩
    change ∀ W, Calls _ _ _ W (fun e w' => e = .returned (.slice (some ⟨W.heap.size, 0, none⟩) (Lib.countB a0 ⟨#[47]⟩ + 1) (Lib.countB a0 ⟨#[47]⟩ + 1)) ∧ w' = W.alloc (.cells ((pieces a0).map Value.string).toArray 9)) at cs
    rw [hn] at hl cs
    rw [hr] at hl cs
    have hn2 : n ≤ maxLen := by unfold maxLen; omega
    clear hr hn hle
    have HL := Lib.hid hl
    clear hl
    go_enter Tryd.func10, Tryd.ntmps10
    go_wp2_with (first | (go_at_call 7; refine (hR _).mono ?_; rintro e w' ⟨rfl, hb⟩) | (go_at_call 15; refine (cs _).mono ?_; rintro e w2 ⟨rfl, hw2⟩; (have HW := Lib.hid hw2; clear hw2)))
    go_ret
    obtain rfl := HW.out
    obtain rfl := HL.out
    refine ⟨_, rfl, Kd.R_lower (Kd.R_of_own (h1 := fun _ => rfl) (own_new_strs _ r _ hn2) (fun _ _ => trivial)) hb.size, hb.alloc hb.size _⟩

end Go.Proofs.YtjhbannlgaiipaaDoor.P
