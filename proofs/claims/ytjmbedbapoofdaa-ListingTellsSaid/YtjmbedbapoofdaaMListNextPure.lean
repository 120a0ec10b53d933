/- Plain law: ListingNext. -/
import Derived.Test.YtjmbedbapoofdaaPx0
import Derived.Test.YtjmbedbapoofdaaPx6
import Derived.Test.YtjmbedbapoofdaaPx7
import Derived.Test.YtjmbedbapoofdaaMGet
import Derived.Test.YtjmbedbapoofdaaMGetIdx
import Derived.Test.YtjmbedbapoofdaaMListPure
import Derived.Test.YtjmbedbapoofdaaMSortS
namespace Go.Proofs.Ytjmbedbapoofdaa.P
open Go.RowKit Go.Proofs.YtjmbedbapoofdaaW.PrintWords Go.Proofs.YtjmbedbapoofdaaW.PrintLast Go.Proofs.YtjmbedbapoofdaaW.PrintMore
set_option linter.unusedVariables false
set_option linter.unusedSimpArgs false

def pA18 : ByteArray := ⟨#[97]⟩
def pB18 : ByteArray := ⟨#[98]⟩
theorem lA : pA18.toList = [97] := by decide +kernel
theorem lB : pB18.toList = [98] := by decide +kernel
theorem lC : (⟨#[99]⟩ : ByteArray).toList = [99] := by decide +kernel
def fa (n : Nat) (g : Bool) (i : Nat) : File := ⟨pA18, (i : Int) + 1, 0, 0, 2 * (i : Int) + 1, g && decide (i + 1 = n), []⟩
def fb (i : Nat) : File := ⟨pB18, (i : Int) + 1, 0, 0, 2 * (i : Int) + 2, false, []⟩
def lab (n m : Nat) (g : Bool) : List File := (List.range n).map (fa n g) ++ (List.range m).map fb
theorem lab_len (n m : Nat) (g : Bool) : (lab n m g).length = n + m := by simp [lab]
theorem lab_small (n m : Nat) (g : Bool) : ∀ x ∈ lab n m g, small x := by
  intro x hx
  simp only [lab, List.mem_append, List.mem_map] at hx
  rcases hx with ⟨i, _, rfl⟩ | ⟨i, _, rfl⟩ <;> simp [small, fa, fb]
theorem fold_none (p : ByteArray) (l : List File) (h : ∀ x ∈ l, x.f0.toList ≠ p.toList) (s : File × Bool) : l.foldl (nwS p) s = s := by
  induction l generalizing s with
  | nil => rfl
  | cons x l ih =>
    rw [List.foldl_cons, show nwS p s x = s from if_neg (fun hh => h x (List.mem_cons_self ..) hh.1)]
    exact ih (fun y hy => h y (List.mem_cons_of_mem _ hy)) s
theorem fold_rise (p : ByteArray) (g : Nat → File) (hg : ∀ i, (g i).f0.toList = p.toList) (hv : ∀ i, (g i).f1 = (i : Int) + 1) (s : File) : ∀ n, ((List.range (n + 1)).map g).foldl (nwS p) (s, false) = (g n, true)
  | 0 => by
    show nwS p (s, false) (g 0) = _
    exact if_pos ⟨hg 0, fun h => by cases h⟩
  | n + 1 => by
    rw [List.range_succ, List.map_append, List.foldl_append, fold_rise p g hg hv s n]
    show nwS p (g n, true) (g (n + 1)) = _
    exact if_pos ⟨hg _, fun _ => by show (g (n + 1)).f1 > (g n).f1; rw [hv, hv]; omega⟩
theorem newest_a (n m : Nat) (g : Bool) : newestS (lab (n + 1) m g) pA18 = (fa (n + 1) g n, true) := by
  unfold newestS lab
  rw [List.foldl_append, fold_rise pA18 (fa (n + 1) g) (fun _ => rfl) (fun _ => rfl)]
  refine fold_none _ _ (fun x hx => ?_) _
  obtain ⟨i, _, rfl⟩ := List.mem_map.1 hx
  show pB18.toList ≠ pA18.toList
  rw [lA, lB]; decide
theorem newest_b (n m : Nat) (g : Bool) : newestS (lab n (m + 1) g) pB18 = (fb m, true) := by
  unfold newestS lab
  rw [List.foldl_append, fold_none pB18 ((List.range n).map (fa n g)) (fun x hx => ?_), fold_rise pB18 fb (fun _ => rfl) (fun _ => rfl)]
  obtain ⟨i, _, rfl⟩ := List.mem_map.1 hx
  show pA18.toList ≠ pB18.toList
  rw [lA, lB]; decide
theorem newest_c (n m : Nat) (g : Bool) : newestS (lab n m g) ⟨#[99]⟩ = (zFile, false) := by
  unfold newestS
  refine fold_none _ _ (fun x hx => ?_) _
  simp only [lab, List.mem_append, List.mem_map] at hx
  rcases hx with ⟨i, _, rfl⟩ | ⟨i, _, rfl⟩
  · show pA18.toList ≠ _
    rw [lA, lC]; decide
  · show pB18.toList ≠ _
    rw [lB, lC]; decide
theorem fold_mx (g : Nat → File) (c : Int) (hg : ∀ i, (g i).f4 = 2 * (i : Int) + c) : ∀ (n : Nat) (s : Int), ((List.range (n + 1)).map g).foldl (fun a x => mx a x.f4) s = mx s (2 * (n : Int) + c)
  | 0, s => by
    show mx s (g 0).f4 = _
    rw [hg]
  | n + 1, s => by
    rw [List.range_succ, List.map_append, List.foldl_append, fold_mx g c hg n s]
    show mx (mx s _) (g (n + 1)).f4 = _
    rw [hg]
    unfold mx
    repeat' split
    all_goals omega
theorem serial_ab (n m : Nat) (g : Bool) (hn : n < 20) (hm : m < 20) : SerialS (lab (n + 1) (m + 1) g) = if m ≥ n then 2 * (m : Int) + 3 else 2 * (n : Int) + 2 := by
  have hx : lab (n + 1) (m + 1) g = fa (n + 1) g 0 :: (lab (n + 1) (m + 1) g).tail := by simp [lab, List.range_succ_eq_map]
  have hs : SerialS (lab (n + 1) (m + 1) g) = wrap64 ((lab (n + 1) (m + 1) g).foldl (fun a x => mx a x.f4) 1 + 1) := by
    rw [hx]; rfl
  rw [hs, lab, List.foldl_append, fold_mx (fa (n + 1) g) 1 (fun _ => rfl), fold_mx fb 2 (fun _ => rfl)]
  unfold mx wrap64
  repeat' split
  all_goals omega
theorem idx_skip (p : ByteArray) (v : Int) : ∀ (l r : List File) (x : File) (i : Int), (∀ y ∈ l, predF p v y = false) → predF p v x = true → idxF p v (l ++ x :: r) i = i + l.length
  | [], r, x, i, _, hx => by simp [idxF, hx]
  | y :: l, r, x, i, hl, hx => by
    rw [List.cons_append, idxF, if_neg (by rw [hl y (List.mem_cons_self ..)]; simp), idx_skip p v l r x (i + 1) (fun z hz => hl z (List.mem_cons_of_mem _ hz)) hx]
    simp only [List.length_cons]
    omega
theorem lab_split (n m : Nat) (g : Bool) : lab (n + 1) m g = (List.range n).map (fa (n + 1) g) ++ fa (n + 1) g n :: (List.range m).map fb := by
  simp [lab, List.range_succ]
theorem idx_a (n m : Nat) (g : Bool) : idxF pA18 ((n : Int) + 1) (lab (n + 1) m g) 0 = n := by
  rw [lab_split, idx_skip]
  · simp
  · intro y hy
    obtain ⟨i, hi, rfl⟩ := List.mem_map.1 hy
    have := List.mem_range.1 hi
    have : ¬ ((i : Int) + 1 = (n : Int) + 1) := by omega
    simp [predF, fa, this]
  · simp [predF, fa]
theorem get_a (k n m : Nat) (g : Bool) : (listing_Get.f k (lab (n + 1) m g) pA18 ((n : Int) + 1)) = some (tup (thereS (fa (n + 1) g n, true))) := by
  unfold listing_Get.f
  have hrd : rd_T28 (lab (n + 1) m g) (n : Int) = fa (n + 1) g n := by
    rw [rd_file _ n (by rw [lab_len]; omega)]
    simp only [lab_split]
    rw [List.getElem_append_right (by simp)]
    simp
  rw [if_neg (by omega), idx_a, if_neg (by omega), if_pos (by rw [lab_len]; omega), hrd]
  exact there_eq (fa (n + 1) g n, true) (by simp [small, fa])
theorem names_ab (n m : Nat) (g : Bool) : (namesS (lab (n + 1) (m + 1) g)).length = if g then 1 else 2 := by
  have hNa : (NewestS (lab (n + 1) (m + 1) g) pA18).2 = !g := by
    unfold NewestS
    rw [newest_a]
    cases g <;> simp [thereS, fa, zFile]
  have hNb : (NewestS (lab (n + 1) (m + 1) g) pB18).2 = true := by
    unfold NewestS
    rw [newest_b]
    simp [thereS, fb]
  obtain ⟨h1, h2⟩ := names_spec (lab (n + 1) (m + 1) g)
  have hmem : ∀ x, x ∈ lb (namesS (lab (n + 1) (m + 1) g)) ↔ x ∈ (if g then [[98]] else [[97], [98]] : List (List UInt8)) := by
    intro x
    rw [h1 x]
    unfold namesRaw lb
    simp only [List.map_map, List.mem_map, List.mem_filter, Function.comp]
    constructor
    · rintro ⟨y, ⟨hy, hok⟩, rfl⟩
      simp only [lab, List.mem_append, List.mem_map] at hy
      rcases hy with ⟨i, _, rfl⟩ | ⟨i, _, rfl⟩
      · have hg : g = false := by
          have : (NewestS (lab (n + 1) (m + 1) g) pA18).2 = true := hok
          rw [hNa] at this
          simpa using this
        subst hg
        simp [fa, pA18]
      · cases g <;> simp [fb, pB18]
    · intro hx
      cases g with
      | true =>
        simp only [if_true, List.mem_singleton] at hx
        subst hx
        exact ⟨fb 0, ⟨by simp only [lab, List.mem_append, List.mem_map]; exact .inr ⟨0, by simp, rfl⟩, hNb⟩, rfl⟩
      | false =>
        simp only [Bool.false_eq_true, if_false, List.mem_cons, List.not_mem_nil, or_false] at hx
        rcases hx with rfl | rfl
        · exact ⟨fa (n + 1) false 0, ⟨by simp only [lab, List.mem_append, List.mem_map]; exact .inl ⟨0, by simp, rfl⟩, by rw [show (fa (n + 1) false 0).f0 = pA18 from rfl, hNa]; rfl⟩, rfl⟩
        · exact ⟨fb 0, ⟨by simp only [lab, List.mem_append, List.mem_map]; exact .inr ⟨0, by simp, rfl⟩, hNb⟩, rfl⟩
  have := strict_ext _ _ h2 (by cases g <;> simp <;> decide) hmem
  rw [← lb_length, this]
  cases g <;> rfl
theorem alive18 (k : Nat) (hk : 10 < k) : cartridgelaw18_alive.f k = some true := by
  unfold cartridgelaw18_alive.f
  rw [Newest_eq k _ _ (by simp) (by simpa using by omega) (fun x hx => by simp at hx; subst hx; simp [small]), Option.bind_some, Next_eq k [] _ (by simp) (by simp; omega), Option.bind_some, Serial_eq k [] (by simp) (by simp; omega), Option.bind_some, Names_eq k [] (by simp) (by simp) (by simp; omega), Option.bind_some]
  have h1 : newestS [⟨(⟨#[97]⟩ : ByteArray), 3, 0, 0, 0, false, []⟩] (⟨#[97]⟩ : ByteArray) = (⟨(⟨#[97]⟩ : ByteArray), 3, 0, 0, 0, false, []⟩, true) := if_pos ⟨rfl, fun h => by cases h⟩
  have h2 : namesS [] = [] := by
    have := (names_spec []).1
    apply List.eq_nil_of_length_eq_zero
    rw [← lb_length]
    cases hh : lb (namesS []) with
    | nil => rfl
    | cons a t => exact absurd ((this a).1 (by rw [hh]; exact List.mem_cons_self ..)) (by simp [namesRaw, lb])
  unfold NewestS
  rw [h1, h2]
  simp [thereS, tup, newestS, SerialS]
theorem build_a (n m : Nat) (g : Bool) (hn : n < 20) : ∀ (d i k : Nat), i + d = n + 1 → d < k → ∃ k', k ≤ k' + d + 1 ∧ cartridgelaw18_ListingNext.l0 k ((n : Int) + 1) ((m : Int) + 1) g ((List.range i).map (fa (n + 1) g)) (i : Int) = cartridgelaw18_ListingNext.l1 k' ((n : Int) + 1) ((m : Int) + 1) g ((List.range (n + 1)).map (fa (n + 1) g)) 0
  | 0, i, k + 1, hi, hk => by
    refine ⟨k, by omega, ?_⟩
    have : i = n + 1 := by omega
    subst this
    rw [cartridgelaw18_ListingNext.l0, if_neg (by omega)]
  | d + 1, i, k + 1, hi, hk => by
    obtain ⟨k', h1, h2⟩ := build_a n m g hn d (i + 1) k (by omega) (by omega)
    refine ⟨k', by omega, ?_⟩
    rw [← h2, cartridgelaw18_ListingNext.l0, if_pos (by omega)]
    have w1 : wrap64 ((i : Int) + 1) = ((i + 1 : Nat) : Int) := by unfold wrap64; omega
    have w2 : wrap64 (wrap64 (2 * (i : Int)) + 1) = 2 * (i : Int) + 1 := by unfold wrap64; omega
    have w3 : wrap64 ((n : Int) + 1 - 1) = (n : Int) := by unfold wrap64; omega
    have hr : (List.range (i + 1)).map (fa (n + 1) g) = (List.range i).map (fa (n + 1) g) ++ [fa (n + 1) g i] := by rw [List.range_succ, List.map_append]; rfl
    rw [w1, w2, w3, hr]
    cases g with
    | true =>
      rw [if_pos rfl, if_pos (by simp; omega)]
      have : ((i : Int) == (n : Int)) = (true && decide (i + 1 = n + 1)) := by
        by_cases h : i = n
        · subst h; simp
        · have h2 : ¬ ((i : Int) = n) := by omega
          rw [show ((i : Int) == (n : Int)) = false from beq_false_of_ne h2]
          simp [h]
      rw [this]
      rfl
    | false =>
      rw [if_neg (by simp), if_pos (by simp; omega)]
      rfl
theorem build_b (n m : Nat) (g : Bool) (hn : n < 20) (hm : m < 20) : ∀ (d i k : Nat), i + d = m + 1 → d < k → ∃ k', k ≤ k' + d + 1 ∧ cartridgelaw18_ListingNext.l1 k ((n : Int) + 1) ((m : Int) + 1) g ((List.range (n + 1)).map (fa (n + 1) g) ++ (List.range i).map fb) (i : Int) = cartridgelaw18_ListingNext.l1 (k' + 1) ((n : Int) + 1) ((m : Int) + 1) g (lab (n + 1) (m + 1) g) ((m : Int) + 1)
  | 0, i, k + 1, hi, hk => by
    refine ⟨k, by omega, ?_⟩
    have : i = m + 1 := by omega
    subst this
    rfl
  | d + 1, i, k + 1, hi, hk => by
    obtain ⟨k', h1, h2⟩ := build_b n m g hn hm d (i + 1) k (by omega) (by omega)
    refine ⟨k', by omega, ?_⟩
    rw [← h2, cartridgelaw18_ListingNext.l1, if_pos (by omega)]
    have w1 : wrap64 ((i : Int) + 1) = ((i + 1 : Nat) : Int) := by unfold wrap64; omega
    have w2 : wrap64 (wrap64 (2 * (i : Int)) + 2) = 2 * (i : Int) + 2 := by unfold wrap64; omega
    have hr : (List.range (i + 1)).map fb = (List.range i).map fb ++ [fb i] := by rw [List.range_succ, List.map_append]; rfl
    rw [w1, w2, hr, if_pos (by simp; omega), List.append_assoc]
    rfl
theorem end_ab (n m k : Nat) (g : Bool) (hn : n < 20) (hm : m < 20) (hk : 200 < k) : cartridgelaw18_ListingNext.l1 k ((n : Int) + 1) ((m : Int) + 1) g (lab (n + 1) (m + 1) g) ((m : Int) + 1) = some true := by
  obtain ⟨k, rfl⟩ : ∃ q, k = q + 3 := ⟨k - 3, by omega⟩
  have hlen := lab_len (n + 1) (m + 1) g
  have hsm := lab_small (n + 1) (m + 1) g
  rw [cartridgelaw18_ListingNext.l1, if_neg (by omega)]
  rw [show (⟨#[97]⟩ : ByteArray) = pA18 from rfl, Newest_eq (k + 2) _ pA18 (by omega) (by omega) hsm, Option.bind_some, get_a, Option.bind_some]
  have hj4 : ∀ q x15 x16, (x15 = if m ≥ n then 2 * (m : Int) + 3 else 2 * (n : Int) + 2) → (x16 = if g then (1 : Int) else 2) → 100 < q → cartridgelaw18_ListingNext.j4 q ((n : Int) + 1) ((m : Int) + 1) g (lab (n + 1) (m + 1) g) (NewestS (lab (n + 1) (m + 1) g) pA18).2 (thereS (fa (n + 1) g n, true)).2 x15 x16 = some true := by
    intro q x15 x16 h15 h16 hq
    obtain ⟨q, rfl⟩ : ∃ z, q = z + 1 := ⟨q - 1, by omega⟩
    rw [cartridgelaw18_ListingNext.j4]
    rw [show (⟨#[97]⟩ : ByteArray) = pA18 from rfl, show (⟨#[98]⟩ : ByteArray) = pB18 from rfl]
    have hNa : (NewestS (lab (n + 1) (m + 1) g) pA18).2 = !g := by
      unfold NewestS
      rw [newest_a]
      cases g <;> simp [thereS, fa, zFile]
    have hT : (thereS (fa (n + 1) g n, true)).2 = !g := by
      cases g <;> simp [thereS, fa, zFile]
    have e1 : (if (newestS (lab (n + 1) (m + 1) g) pA18).2 = true then wrap64 ((newestS (lab (n + 1) (m + 1) g) pA18).1.f1 + 1) else 1) = wrap64 ((n : Int) + 1 + 1) := by
      rw [newest_a]; exact if_pos rfl
    have e2 : (if (newestS (lab (n + 1) (m + 1) g) pB18).2 = true then wrap64 ((newestS (lab (n + 1) (m + 1) g) pB18).1.f1 + 1) else 1) = wrap64 ((m : Int) + 1 + 1) := by
      rw [newest_b]; exact if_pos rfl
    have e3 : (if (newestS (lab (n + 1) (m + 1) g) ⟨#[99]⟩).2 = true then wrap64 ((newestS (lab (n + 1) (m + 1) g) ⟨#[99]⟩).1.f1 + 1) else 1) = 1 := by
      rw [newest_c]; exact if_neg (by simp)
    have hb : ((!g) == (!g)) = true := by cases g <;> rfl
    have hx : ((((if g then 1 else 2 : Nat)) : Int) == x16) = true := by subst h16; cases g <;> rfl
    rw [hNa, hT]
    rw [Next_eq q _ pA18 (by omega) (by omega), Option.bind_some, e1, if_pos rfl, Next_eq q _ pB18 (by omega) (by omega), Option.bind_some, e2, if_pos rfl, Next_eq q _ ⟨#[99]⟩ (by omega) (by omega), Option.bind_some, e3, if_pos rfl, Serial_eq q _ (by omega) (by omega), Option.bind_some, serial_ab n m g hn hm, if_pos h15.symm, if_pos hb, if_pos hb, Names_eq q _ (by omega) hsm (by omega), Option.bind_some, names_ab, hx]
  have hj3 : ∀ x15, (x15 = if m ≥ n then 2 * (m : Int) + 3 else 2 * (n : Int) + 2) → cartridgelaw18_ListingNext.j3 (k + 2) ((n : Int) + 1) ((m : Int) + 1) g (lab (n + 1) (m + 1) g) (NewestS (lab (n + 1) (m + 1) g) pA18).2 (thereS (fa (n + 1) g n, true)).2 x15 = some true := by
    intro x15 h15
    rw [cartridgelaw18_ListingNext.j3]
    cases g with
    | true => rw [if_pos rfl]; exact hj4 _ _ _ h15 rfl (by omega)
    | false => rw [if_neg (by simp)]; exact hj4 _ _ _ h15 rfl (by omega)
  by_cases hmn : (m : Int) + 1 ≥ (n : Int) + 1
  · rw [if_pos hmn]
    exact hj3 _ (by rw [if_pos (by omega)]; unfold wrap64; omega)
  · rw [if_neg hmn]
    exact hj3 _ (by rw [if_neg (by omega)]; unfold wrap64; omega)
theorem listingNext_pure : cartridgelaw18_ListingNext.Pure := by
  intro a0 a1 a2 _ _
  refine ⟨1000, ?_⟩
  unfold cartridgelaw18_ListingNext.f
  rw [alive18 1000 (by omega), Option.bind_some, if_pos rfl]
  have hout : cartridgelaw18_ListingNext.j0 1000 a0 a1 a2 true true = some true := by rw [cartridgelaw18_ListingNext.j0, if_pos rfl]
  by_cases h1 : a0 < 1
  · rw [if_pos h1]; exact hout
  rw [if_neg h1]
  by_cases h2 : a0 > 20
  · rw [if_pos h2]; exact hout
  rw [if_neg h2]
  by_cases h3 : a1 < 1
  · rw [if_pos h3]; exact hout
  rw [if_neg h3]
  by_cases h4 : a1 > 20
  · rw [decide_eq_true h4]; exact hout
  rw [decide_eq_false h4]
  obtain ⟨n, rfl⟩ : ∃ n : Nat, a0 = (n : Int) + 1 := ⟨(a0 - 1).toNat, by omega⟩
  obtain ⟨m, rfl⟩ : ∃ m : Nat, a1 = (m : Int) + 1 := ⟨(a1 - 1).toNat, by omega⟩
  rw [cartridgelaw18_ListingNext.j0, if_neg (by simp)]
  obtain ⟨k1, e1, e2⟩ := build_a n m a2 (by omega) (n + 1) 0 999 (by omega) (by omega)
  obtain ⟨k2, e3, e4⟩ := build_b n m a2 (by omega) (by omega) (m + 1) 0 k1 (by omega) (by omega)
  rw [show ([] : List File) = (List.range 0).map (fa (n + 1) a2) from rfl]
  refine e2.trans ?_
  rw [show (List.range (n + 1)).map (fa (n + 1) a2) = (List.range (n + 1)).map (fa (n + 1) a2) ++ (List.range 0).map fb by simp]
  exact e4.trans (end_ab n m (k2 + 1) a2 (by omega) (by omega) (by omega))

end Go.Proofs.Ytjmbedbapoofdaa.P
