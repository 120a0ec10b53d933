/- A text has a rune that no part may hold just where it has a byte that no part may hold. -/
import Derived.Test.YtjhbannlgaiipaaDoorPx0
import Derived.Test.YtjhbannlgaiipaaDoorMPath
import Derived.Test.YtjhbannlgaiipaaDoorMPathSpec
import Derived.Lib.TrimUEq
namespace Go.Proofs.YtjhbannlgaiipaaDoor.P
open Go.RowKit Go.Proofs.YtjhbannlgaiipaaDoorW.PrintWords Go.Proofs.YtjhbannlgaiipaaDoorW.PrintLast Go.Proofs.YtjhbannlgaiipaaDoorW.PrintMore
set_option linter.unusedVariables false
set_option linter.unusedSimpArgs false
open Go.Lib

theorem ge128 (n b0 b1 b2 b3 : Nat) (h : 128 ≤ b0) : 128 ≤ (decodeN n b0 b1 b2 b3).1 := by
  unfold decodeN
  repeat' split
  all_goals (try simp)
  all_goals (try omega)
theorem pOther_byte (c : UInt8) (h : c.toNat < 128) : pOther c.toNat = !okB c := by
  rw [Bool.eq_iff_iff]
  simp [pOther, okB, UInt8.le_iff_toNat_le, ← UInt8.toNat_inj]
  try omega
theorem pOther_big (r : Nat) (h : 128 ≤ r) : pOther r = true := by
  simp [pOther]; omega
theorem okB_small (c : UInt8) (h : okB c = true) : c.toNat < 128 := by
  simp [okB, UInt8.le_iff_toNat_le, ← UInt8.toNat_inj] at h
  omega
theorem idx_from (s : ByteArray) : ∀ (f pos : Nat), s.size ≤ pos + f → decide (0 ≤ Lib.idxFuncFrom pOther true s f pos) = !((s.data.toList.drop pos).all okB)
  | 0, pos, h => by
    have : s.data.toList.drop pos = [] := List.drop_eq_nil_of_le (by simpa using h)
    simp [idxFuncFrom, this]
  | f + 1, pos, h => by
    unfold idxFuncFrom
    by_cases hp : pos < s.size
    · rw [if_pos hp]
      have hl : pos < s.data.toList.length := by simpa using hp
      rw [List.drop_eq_getElem_cons hl, List.all_cons]
      have hd := decode_N s pos
      have hg : s.data.toList.getD pos 0 = s.data.toList[pos] := by rw [List.getD_eq_getElem?_getD, List.getElem?_eq_getElem hl]; rfl
      rw [hg] at hd
      by_cases hc : (s.data.toList[pos]).toNat < 128
      · have h2 : Utf8.decode s pos = ((s.data.toList[pos]).toNat, 1) := by rw [hd]; exact decodeN_ascii _ _ _ _ _ hc
        rw [h2]
        simp only
        rw [pOther_byte _ hc]
        cases ho : okB s.data.toList[pos] with
        | false => simp
        | true =>
          simp only [Bool.not_true, Bool.false_eq_true, if_false, Bool.true_and]
          exact idx_from s f (pos + 1) (by omega)
      · have h3 : 128 ≤ (Utf8.decode s pos).1 := by rw [hd]; exact ge128 _ _ _ _ _ (by omega)
        rw [pOther_big _ h3, if_pos rfl]
        have ho : okB s.data.toList[pos] = false := by
          cases e : okB s.data.toList[pos] with
          | false => rfl
          | true => exact absurd (okB_small _ e) hc
        rw [ho]; simp
    · rw [if_neg hp]
      have : s.data.toList.drop pos = [] := List.drop_eq_nil_of_le (by simpa using hp)
      simp [this]

theorem pWrong_eq (s : ByteArray) : pWrong s = !partOk s.data.toList := by
  have h := idx_from s s.size 0 (by omega)
  rw [List.drop_zero] at h
  unfold pWrong Lib.idxFunc partOk
  rw [h, Lib.toList_data]
  simp [Bool.not_and, Bool.or_assoc]

theorem any_all (l : List ByteArray) : l.any pWrong = !((l.map (·.data.toList)).all partOk) := by
  induction l with
  | nil => rfl
  | cons a t ih => simp [ih, pWrong_eq]

theorem rightB_eq (s : ByteArray) : rightB s = (decide (s.size ≤ 24) && (sp [] s.data.toList).all partOk) := by
  unfold rightB
  rw [any_all, pieces_sp, Bool.not_not]

end Go.Proofs.YtjhbannlgaiipaaDoor.P
