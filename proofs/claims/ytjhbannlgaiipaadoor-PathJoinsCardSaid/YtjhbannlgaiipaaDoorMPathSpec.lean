/- Plain law of the path functions: lists of bytes cut at the sign 47, and what a part may be. No program in sight. -/
import Derived.Test.YtjhbannlgaiipaaDoorPx0
import Derived.Lib.SplitLaws
namespace Go.Proofs.YtjhbannlgaiipaaDoor.P
open Go.RowKit Go.Proofs.YtjhbannlgaiipaaDoorW.PrintWords Go.Proofs.YtjhbannlgaiipaaDoorW.PrintLast Go.Proofs.YtjhbannlgaiipaaDoorW.PrintMore
set_option linter.unusedVariables false
set_option linter.unusedSimpArgs false
open Go.Lib

def okB (c : UInt8) : Bool := (97 ≤ c && c ≤ 122) || (48 ≤ c && c ≤ 57) || c == 46 || c == 45 || c == 95
def partOk (p : List UInt8) : Bool := !(p == []) && !(p == [46]) && !(p == [46, 46]) && p.all okB
/-- The bytes cut at 47, the first part begun with w. -/
def sp : List UInt8 → List UInt8 → List (List UInt8)
  | w, [] => [w]
  | w, c :: t => if c = 47 then w :: sp [] t else sp (w ++ [c]) t

theorem sp_ne (w l : List UInt8) : sp w l ≠ [] := by
  induction l generalizing w with
  | nil => simp [sp]
  | cons c t ih =>
    unfold sp
    split
    · simp
    · exact ih _

theorem sp_head (w l : List UInt8) : ∃ h t, sp [] l = h :: t ∧ sp w l = (w ++ h) :: t := by
  induction l generalizing w with
  | nil => exact ⟨[], [], rfl, by simp [sp]⟩
  | cons c r ih =>
    by_cases hc : c = 47
    · exact ⟨[], sp [] r, by simp [sp, hc], by simp [sp, hc]⟩
    · obtain ⟨h, t, h1, h2⟩ := ih [c]
      obtain ⟨h', t', h3, h4⟩ := ih (w ++ [c])
      rw [h1] at h3
      obtain ⟨rfl, rfl⟩ := List.cons.inj h3
      exact ⟨c :: h, t, by simp [sp, hc, h2], by simp [sp, hc, h4]⟩

theorem splitK_cons_eq (l : List UInt8) : splitK [47] 0 ((47 :: l).count 47) (47 :: l) = [] :: splitK [47] 0 (l.count 47) l := by
  have hix : index (47 :: l) [47] = 0 := by rw [index]; simp [List.isPrefixOf]
  rw [show (47 :: l).count 47 = l.count 47 + 1 by simp]
  rw [splitK, hix]
  simp

theorem splitK_cons_ne (c : UInt8) (l : List UInt8) (hc : c ≠ 47) : ∃ h t, splitK [47] 0 (l.count 47) l = h :: t ∧ splitK [47] 0 ((c :: l).count 47) (c :: l) = (c :: h) :: t := by
  have hp : ([47] : List UInt8).isPrefixOf (c :: l) = false := by simp [List.isPrefixOf, Ne.symm hc]
  have hix : index (c :: l) [47] = if index l [47] == -1 then -1 else index l [47] + 1 := by rw [index, hp]; simp
  rw [List.count_cons_of_ne (by simpa using hc)]
  cases hk : l.count 47 with
  | zero => exact ⟨l, [], rfl, rfl⟩
  | succ k =>
    have hm : index l [47] ≠ -1 := fun e => by
      have := count_miss e
      rw [count_one] at this
      omega
    have hge := index_ge l [47]
    obtain ⟨j, hj⟩ : ∃ j : Nat, index l [47] = j := ⟨(index l [47]).toNat, by omega⟩
    have hm' : (index l [47] == -1) = false := by simpa using hm
    rw [hm'] at hix
    simp only [Bool.false_eq_true, if_false] at hix
    refine ⟨l.take ((index l [47]).toNat + 0), splitK [47] 0 k (l.drop ((index l [47]).toNat + ([47] : List UInt8).length)), by rw [splitK, hm']; simp only [Bool.false_eq_true, if_false], ?_⟩
    have hm2 : (index (c :: l) [47] == -1) = false := by rw [hix, hj]; simp; omega
    rw [splitK, hm2]
    simp only [Bool.false_eq_true, if_false]
    rw [hix, hj]
    have e1 : ((j : Int) + 1).toNat = j + 1 := by omega
    rw [e1]
    simp

theorem splitK_sp (l : List UInt8) : splitK [47] 0 (l.count 47) l = sp [] l := by
  induction l with
  | nil => rfl
  | cons c t ih =>
    by_cases hc : c = 47
    · subst hc
      rw [splitK_cons_eq, ih]; simp [sp]
    · obtain ⟨h, r, h1, h2⟩ := splitK_cons_ne c t hc
      obtain ⟨h', r', h3, h4⟩ := sp_head [c] t
      rw [h2, show sp [] (c :: t) = sp [c] t by simp [sp, hc], h4]
      rw [ih, h3] at h1
      obtain ⟨rfl, rfl⟩ := List.cons.inj h1
      rfl

theorem split_sp (s : ByteArray) : (splitB ⟨#[47]⟩ 0 (countB s ⟨#[47]⟩) s).map (·.data.toList) = sp [] s.data.toList := by
  rw [splitB_data, ← splitK_sp]
  show splitK [47] 0 (Lib.count s.data.toList [47]) _ = _
  rw [count_one]


end Go.Proofs.YtjhbannlgaiipaaDoor.P
