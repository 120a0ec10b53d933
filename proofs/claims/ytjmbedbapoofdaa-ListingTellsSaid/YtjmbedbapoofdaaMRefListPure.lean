/- The reference's listing functions answer as the plain ones. -/
import Derived.Test.YtjmbedbapoofdaaPx0
import Derived.Test.YtjmbedbapoofdaaPx2
import Derived.Test.YtjmbedbapoofdaaPx3
import Derived.Test.YtjmbedbapoofdaaPx4
import Derived.Test.YtjmbedbapoofdaaPx5
import Derived.Test.YtjmbedbapoofdaaMGet
import Derived.Test.YtjmbedbapoofdaaMGetIdx
import Derived.Test.YtjmbedbapoofdaaMListPure
namespace Go.Proofs.Ytjmbedbapoofdaa.P
open Go.RowKit Go.Proofs.YtjmbedbapoofdaaW.PrintWords Go.Proofs.YtjmbedbapoofdaaW.PrintLast Go.Proofs.YtjmbedbapoofdaaW.PrintMore
set_option linter.unusedVariables false
set_option linter.unusedSimpArgs false

def AtS (l : List File) (at_ : Int) (s : File × Bool) : Prop := (at_ = -1 ∧ s = (zFile, false)) ∨ ∃ (j : Nat) (h : j < l.length), at_ = (j : Int) ∧ s = (l[j], true)
theorem wr1 (i : Nat) (h : i < 4611686018427387904) : wrap64 ((i : Int) + 1) = ((i + 1 : Nat) : Int) := by unfold wrap64; omega
theorem nwS_eq (p : ByteArray) (s : File × Bool) (x : File) : nwS p s x = if x.f0.toList = p.toList then (if s.2 = true then (if x.f1 > s.1.f1 then (x, true) else s) else (x, true)) else s := by
  unfold nwS
  obtain ⟨s, b⟩ := s
  cases b <;> by_cases h : x.f0.toList = p.toList <;> by_cases h1 : x.f1 > s.f1 <;> simp [h, h1]
theorem AtS.step {l : List File} {at_ : Int} {s : File × Bool} (h : AtS l at_ s) (p : ByteArray) (i : Nat) (hi : i < l.length) :
    AtS l (if l[i].f0.toList = p.toList then (if at_ < 0 then (i : Int) else if l[i].f1 > (rd_T28 l at_).f1 then (i : Int) else at_) else at_) (nwS p s l[i]) := by
  rw [nwS_eq]
  by_cases hp : l[i].f0.toList = p.toList
  · rw [if_pos hp, if_pos hp]
    rcases h with ⟨rfl, rfl⟩ | ⟨j, hj, rfl, rfl⟩
    · rw [if_pos (by omega), if_neg (by simp)]
      exact .inr ⟨i, hi, rfl, rfl⟩
    · rw [if_neg (by omega), if_pos rfl, rd_file l j hj]
      by_cases h1 : l[i].f1 > l[j].f1
      · rw [if_pos h1, if_pos h1]; exact .inr ⟨i, hi, rfl, rfl⟩
      · rw [if_neg h1, if_neg h1]; exact .inr ⟨j, hj, rfl, rfl⟩
  · rw [if_neg hp, if_neg hp]; exact h
theorem AtS.neg {l : List File} {at_ : Int} {s : File × Bool} (h : AtS l at_ s) (hn : at_ < 0) : s = (zFile, false) := by
  rcases h with ⟨_, h⟩ | ⟨j, _, e, _⟩
  · exact h
  · omega
theorem AtS.pos {l : List File} {at_ : Int} {s : File × Bool} (h : AtS l at_ s) (hn : ¬ at_ < 0) : ∃ (j : Nat) (h : j < l.length), at_ = (j : Int) ∧ s = (l[j], true) := by
  rcases h with ⟨e, _⟩ | h
  · omega
  · exact h
theorem refNewest_l0 (p : ByteArray) (l : List File) (hl : l.length ≤ 1000000) : ∀ (n i k : Nat) (at_ : Int) (s : File × Bool), i + n = l.length → n < k → AtS l at_ s → cartridgeref10_Newest.l0 k l p at_ (i : Int) = some (tup (thereS ((l.drop i).foldl (nwS p) s)))
  | 0, i, k + 1, at_, s, hi, hk, h => by
    rw [cartridgeref10_Newest.l0, if_neg (by omega), List.drop_of_length_le (by omega)]
    by_cases hn : at_ < 0
    · rw [if_pos hn, h.neg hn]; rfl
    · obtain ⟨j, hj, rfl, rfl⟩ := h.pos hn
      rw [if_neg hn, if_pos (by omega), if_pos (by omega), rd_file l j hj, List.foldl_nil]
      unfold thereS
      cases hg : l[j].f5 <;> simp [tup, hg, zFile, z28]
  | n + 1, i, k + 1, at_, s, hi, hk, h => by
    have hlt : i < l.length := by omega
    have hst := h.step p i hlt
    have ih := fun a => refNewest_l0 p l hl n (i + 1) k a (nwS p s l[i]) (by omega) (by omega)
    rw [cartridgeref10_Newest.l0, if_pos (by omega), if_pos (by omega), wr1 i (by omega), rd_file l i hlt, List.drop_eq_getElem_cons hlt, List.foldl_cons]
    by_cases hp : l[i].f0.toList = p.toList
    · rw [if_pos hp] at hst ⊢
      by_cases hn : at_ < 0
      · rw [if_pos hn] at hst ⊢; exact ih _ hst
      · obtain ⟨j, hj, rfl, _⟩ := h.pos hn
        rw [if_neg hn] at hst
        rw [if_neg hn, if_pos (by omega), if_pos (by omega)]
        by_cases h1 : l[i].f1 > (rd_T28 l (j : Int)).f1
        · rw [if_pos h1] at hst ⊢; exact ih _ hst
        · rw [if_neg h1] at hst ⊢; exact ih _ hst
    · rw [if_neg hp] at hst ⊢; exact ih _ hst
theorem refNewest_eq (k : Nat) (l : List File) (p : ByteArray) (hl : l.length ≤ 1000000) (hk : l.length < k) : cartridgeref10_Newest.f k l p = some (tup (NewestS l p)) := by
  have := refNewest_l0 p l hl l.length 0 k (-1) (zFile, false) (by omega) hk (.inl ⟨rfl, rfl⟩)
  rw [List.drop_zero] at this
  exact this
theorem refNext_l0 (p : ByteArray) (l : List File) (hl : l.length ≤ 1000000) : ∀ (n i k : Nat) (at_ : Int) (s : File × Bool), i + n = l.length → n < k → AtS l at_ s → cartridgeref10_Next.l0 k l p at_ (i : Int) = some (if ((l.drop i).foldl (nwS p) s).2 = true then wrap64 (((l.drop i).foldl (nwS p) s).1.f1 + 1) else 1)
  | 0, i, k + 1, at_, s, hi, hk, h => by
    rw [cartridgeref10_Next.l0, if_neg (by omega), List.drop_of_length_le (by omega)]
    by_cases hn : at_ < 0
    · rw [if_pos hn, h.neg hn]; rfl
    · obtain ⟨j, hj, rfl, rfl⟩ := h.pos hn
      rw [if_neg hn, if_pos (by omega), if_pos (by omega), rd_file l j hj, List.foldl_nil]
      rfl
  | n + 1, i, k + 1, at_, s, hi, hk, h => by
    have hlt : i < l.length := by omega
    have hst := h.step p i hlt
    have ih := fun a => refNext_l0 p l hl n (i + 1) k a (nwS p s l[i]) (by omega) (by omega)
    rw [cartridgeref10_Next.l0, if_pos (by omega), if_pos (by omega), wr1 i (by omega), rd_file l i hlt, List.drop_eq_getElem_cons hlt, List.foldl_cons]
    by_cases hp : l[i].f0.toList = p.toList
    · rw [if_pos hp] at hst ⊢
      by_cases hn : at_ < 0
      · rw [if_pos hn] at hst ⊢; exact ih _ hst
      · obtain ⟨j, hj, rfl, _⟩ := h.pos hn
        rw [if_neg hn] at hst
        rw [if_neg hn, if_pos (by omega), if_pos (by omega)]
        by_cases h1 : l[i].f1 > (rd_T28 l (j : Int)).f1
        · rw [if_pos h1] at hst ⊢; exact ih _ hst
        · rw [if_neg h1] at hst ⊢; exact ih _ hst
    · rw [if_neg hp] at hst ⊢; exact ih _ hst
theorem refNext_eq (k : Nat) (l : List File) (p : ByteArray) (hl : l.length ≤ 1000000) (hk : l.length < k) : cartridgeref10_Next.f k l p = listing_Next.f k l p := by
  have := refNext_l0 p l hl l.length 0 k (-1) (zFile, false) (by omega) hk (.inl ⟨rfl, rfl⟩)
  rw [List.drop_zero] at this
  rw [Next_eq k l p (by omega) hk]
  exact this
theorem refSerial_l0 (l : List File) (hl : l.length ≤ 1000000) : ∀ (n i k j : Nat) (hj : j < l.length), i + n = l.length → n < k → cartridgeref10_Serial.l0 k l (j : Int) (i : Int) = some (wrap64 (((l.drop i).foldl (fun a x => mx a x.f4) l[j].f4) + 1))
  | 0, i, k + 1, j, hj, hi, hk => by
    rw [cartridgeref10_Serial.l0, if_neg (by omega), List.drop_of_length_le (by omega), if_neg (by omega), if_pos (by omega), if_pos (by omega), rd_file l j hj]
    rfl
  | n + 1, i, k + 1, j, hj, hi, hk => by
    have hlt : i < l.length := by omega
    rw [cartridgeref10_Serial.l0, if_pos (by omega), if_neg (by omega), if_pos (by omega), if_pos (by omega), if_pos (by omega), wr1 i (by omega), rd_file l i hlt, rd_file l j hj, List.drop_eq_getElem_cons hlt, List.foldl_cons]
    by_cases h1 : l[i].f4 > l[j].f4
    · rw [if_pos h1, refSerial_l0 l hl n (i + 1) k i hlt (by omega) (by omega)]
      rw [show mx l[j].f4 l[i].f4 = l[i].f4 by unfold mx; rw [if_pos (by omega)]]
    · rw [if_neg h1, refSerial_l0 l hl n (i + 1) k j hj (by omega) (by omega)]
      rw [show mx l[j].f4 l[i].f4 = l[j].f4 by unfold mx; rw [if_neg (by omega)]]
theorem refSerial_eq (k : Nat) (l : List File) (hl : l.length ≤ 1000000) (hk : l.length + 1 < k) : cartridgeref10_Serial.f k l = some (SerialS l) := by
  unfold cartridgeref10_Serial.f
  obtain ⟨k, rfl⟩ : ∃ m, k = m + 1 := ⟨k - 1, by omega⟩
  cases l with
  | nil => rfl
  | cons x r =>
    rw [cartridgeref10_Serial.l0, if_pos (by simp only [List.length_cons]; omega), if_pos (by omega), show wrap64 ((0 : Int) + 1) = ((1 : Nat) : Int) by unfold wrap64; omega]
    have := refSerial_l0 (x :: r) hl r.length 1 k 0 (by simp) (by simp only [List.length_cons]; omega) (by simp only [List.length_cons] at hk; omega)
    rw [show ((0 : Nat) : Int) = 0 from rfl] at this
    rw [this]
    simp only [SerialS, List.foldl_cons, List.getElem_cons_zero, List.drop_succ_cons, List.drop_zero]
    rw [show mx x.f4 x.f4 = x.f4 by unfold mx; split <;> rfl]
theorem idxF_cons_pos (path : ByteArray) (ver : Int) : ∀ (l : List File) (i : Nat), (∃ (j : Nat) (h : j < l.length), idxF path ver l (i : Int) = ((i + j : Nat) : Int) ∧ predF path ver l[j] = true ∧ ∀ m (hm : m < j), predF path ver (l[m]'(by omega)) = false) ∨ (idxF path ver l (i : Int) = -1 ∧ ∀ x ∈ l, predF path ver x = false)
  | [], i => .inr ⟨rfl, by simp⟩
  | x :: l, i => by
    cases hx : predF path ver x with
    | true => exact .inl ⟨0, by simp, by simp [idxF, hx], by simpa using hx, fun m hm => by omega⟩
    | false =>
      have e : idxF path ver (x :: l) (i : Int) = idxF path ver l ((i + 1 : Nat) : Int) := by simp [idxF, hx]
      rw [e]
      rcases idxF_cons_pos path ver l (i + 1) with ⟨j, hj, h1, h2, h3⟩ | ⟨h1, h2⟩
      · refine .inl ⟨j + 1, by simp; omega, by rw [h1]; congr 1; omega, by simpa using h2, fun m hm => ?_⟩
        cases m with
        | zero => simpa using hx
        | succ m => simpa using h3 m (by omega)
      · exact .inr ⟨h1, fun y hy => (List.mem_cons.1 hy).elim (fun e => by rw [e]; exact hx) (h2 y)⟩
/-- What a version's file answers. -/
def GetS (l : List File) (p : ByteArray) (v : Int) : File × Bool := if v = 0 then NewestS l p else match l.find? (predF p v) with
  | none => (zFile, false)
  | some x => thereS (x, true)
theorem find_idx {p : File → Bool} {l : List File} {j : Nat} (hj : j < l.length) (h2 : p l[j] = true) (h3 : ∀ m (hm : m < j), p (l[m]'(by omega)) = false) : l.find? p = some l[j] := by
  rw [List.find?_eq_some_iff_getElem]
  exact ⟨h2, j, hj, rfl, fun m hm => by rw [h3 m hm]; rfl⟩
theorem Get_eq (k : Nat) (l : List File) (p : ByteArray) (v : Int) (hl : l.length ≤ 1000000) (hk : l.length < k) (hs : ∀ x ∈ l, small x) : listing_Get.f k l p v = some (tup (GetS l p v)) := by
  unfold listing_Get.f GetS
  by_cases hv : v = 0
  · rw [if_pos hv, if_pos hv]; exact Newest_eq k l p (by omega) hk hs
  · rw [if_neg hv, if_neg hv]
    rcases idxF_cons_pos p v l 0 with ⟨j, hj, h1, h2, h3⟩ | ⟨h1, h2⟩
    · rw [Nat.zero_add] at h1
      rw [show ((0 : Nat) : Int) = 0 from rfl] at h1
      rw [h1, if_neg (by omega), if_pos (by omega), rd_file l j hj, find_idx hj h2 h3]
      exact there_eq (l[j], true) (hs _ (List.getElem_mem hj))
    · rw [show ((0 : Nat) : Int) = 0 from rfl] at h1
      rw [h1, if_pos (by omega), List.find?_eq_none.2 (fun x hx => by rw [h2 x hx]; simp)]
      rfl
theorem pred_dec (p : ByteArray) (v : Int) (x : File) : predF p v x = (decide (x.f0.toList = p.toList) && decide (x.f1 = v)) := rfl
theorem refGet_l0 (p : ByteArray) (v : Int) (l : List File) (hl : l.length ≤ 1000000) : ∀ (n i k : Nat), i + n = l.length → 2 * n < k → cartridgeref10_GetFile.l0 k l p v (i : Int) = some (tup (match (l.drop i).find? (predF p v) with | none => (zFile, false) | some x => thereS (x, true)))
  | 0, i, k + 1, hi, hk => by
    rw [cartridgeref10_GetFile.l0, if_neg (by omega), List.drop_of_length_le (by omega)]
    rfl
  | n + 1, i, k + 2, hi, hk => by
    have hlt : i < l.length := by omega
    have ih := refGet_l0 p v l hl n (i + 1) k (by omega) (by omega)
    rw [cartridgeref10_GetFile.l0, if_pos (by omega), if_pos (by omega), rd_file l i hlt, List.drop_eq_getElem_cons hlt]
    have hj : ∀ b : Bool, predF p v l[i] = b → cartridgeref10_GetFile.j1 (k + 1) l p v (i : Int) b = some (tup (match (l[i] :: l.drop (i + 1)).find? (predF p v) with | none => (zFile, false) | some x => thereS (x, true))) := by
      intro b hb
      rw [cartridgeref10_GetFile.j1]
      cases b with
      | true =>
        rw [if_pos rfl, if_pos (by omega), if_pos (by omega), rd_file l i hlt, List.find?_cons_of_pos hb]
        unfold thereS
        cases hg : l[i].f5 <;> simp [tup, hg, zFile, z28]
      | false =>
        rw [if_neg (by simp), wr1 i (by omega), List.find?_cons_of_neg (by rw [hb]; simp)]
        exact ih
    by_cases hp : l[i].f0.toList = p.toList
    · rw [if_pos hp]
      exact hj _ (by rw [pred_dec, decide_eq_true hp, Bool.true_and]; try rfl)
    · rw [if_neg hp]
      exact hj _ (by rw [pred_dec, decide_eq_false hp, Bool.false_and])
theorem refGet_eq (k : Nat) (l : List File) (p : ByteArray) (v : Int) (hl : l.length ≤ 1000000) (hk : 2 * l.length < k) : cartridgeref10_GetFile.f k l p v = some (tup (GetS l p v)) := by
  unfold cartridgeref10_GetFile.f GetS
  by_cases hv : v = 0
  · rw [if_pos hv, if_pos hv, refNewest_eq k l p hl (by omega), Option.bind_some]
  · rw [if_neg hv, if_neg hv]
    have := refGet_l0 p v l hl l.length 0 k (by omega) hk
    rw [List.drop_zero] at this
    exact this
theorem same_parts (l : List S47) (hl : l.length ≤ 4611686018427387904) (a0 : ByteArray) (a1 a2 a3 a4 : Int) (a5 : Bool) : ∀ (n i k : Nat), i + n = l.length → n < k → cartridgeref10_SameFile.l0 k (i : Int) a0 a1 a2 a3 a4 a5 l a0 a1 a2 a3 a4 a5 l = some true
  | 0, i, k + 1, hi, hk => by
    rw [cartridgeref10_SameFile.l0, if_neg (by omega)]
  | n + 1, i, k + 1, hi, hk => by
    rw [cartridgeref10_SameFile.l0, if_pos (by omega), if_pos (by omega), if_pos (by omega), if_neg (by simp), show wrap64 ((i : Int) + 1) = ((i + 1 : Nat) : Int) by unfold wrap64; omega]
    exact same_parts l hl a0 a1 a2 a3 a4 a5 n (i + 1) k (by omega) (by omega)
theorem same_file (k : Nat) (x : File) (hx : x.f6.length ≤ 4611686018427387904) (hk : x.f6.length + 1 < k) : cartridgeref10_SameFile.f k x.f0 x.f1 x.f2 x.f3 x.f4 x.f5 x.f6 x.f0 x.f1 x.f2 x.f3 x.f4 x.f5 x.f6 = some true := by
  unfold cartridgeref10_SameFile.f
  obtain ⟨k, rfl⟩ : ∃ m, k = m + 1 := ⟨k - 1, by omega⟩
  rw [if_pos rfl, if_pos rfl, if_pos rfl, if_pos rfl, if_pos rfl, if_neg (by simp), cartridgeref10_SameFile.j0, if_neg (by simp)]
  exact same_parts x.f6 hx x.f0 x.f1 x.f2 x.f3 x.f4 x.f5 x.f6.length 0 k (by omega) (by omega)
theorem same_texts_l0 (l : List ByteArray) (hl : l.length ≤ 4611686018427387904) : ∀ (n i k : Nat), i + n = l.length → n < k → cartridgeref1_SameTexts.l0 k l l (i : Int) = some true
  | 0, i, k + 1, hi, hk => by rw [cartridgeref1_SameTexts.l0, if_neg (by omega)]
  | n + 1, i, k + 1, hi, hk => by
    rw [cartridgeref1_SameTexts.l0, if_pos (by omega), if_pos (by omega), if_pos (by omega), if_pos rfl, show wrap64 ((i : Int) + 1) = ((i + 1 : Nat) : Int) by unfold wrap64; omega]
    exact same_texts_l0 l hl n (i + 1) k (by omega) (by omega)
theorem same_texts (k : Nat) (l : List ByteArray) (hl : l.length ≤ 4611686018427387904) (hk : l.length < k) : cartridgeref1_SameTexts.f k l l = some true := by
  unfold cartridgeref1_SameTexts.f
  rw [if_pos rfl]
  exact same_texts_l0 l hl l.length 0 k (by omega) hk

end Go.Proofs.Ytjmbedbapoofdaa.P
