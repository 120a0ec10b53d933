/- The path laws, over numbers and lists alone: PathTells, PathWrong, PathJoins answer true. -/
import Derived.Test.YtjhbannlgaiipaaDoorPx0
import Derived.Test.YtjhbannlgaiipaaDoorPx1
import Derived.Test.YtjhbannlgaiipaaDoorPx2
import Derived.Test.YtjhbannlgaiipaaDoorPx3
import Derived.Test.YtjhbannlgaiipaaDoorPx4
import Derived.Test.YtjhbannlgaiipaaDoorMPath
import Derived.Test.YtjhbannlgaiipaaDoorMPathRune
import Derived.Test.YtjhbannlgaiipaaDoorMPathSpec
namespace Go.Proofs.YtjhbannlgaiipaaDoor.P
open Go.RowKit Go.Proofs.YtjhbannlgaiipaaDoorW.PrintWords Go.Proofs.YtjhbannlgaiipaaDoorW.PrintLast Go.Proofs.YtjhbannlgaiipaaDoorW.PrintMore
set_option linter.unusedVariables false
set_option linter.unusedSimpArgs false
open Go.Lib

theorem alive5_true : cartridgelaw5_alive.f = some true := by kernel_rfl

theorem pw_in : ∀ n, n < 24 → cartridgelaw5_PathWrong.f ((n : Nat) : Int) = some true := by decide +kernel
theorem PathWrong_pure : cartridgelaw5_PathWrong.Pure := by
  intro a0 _
  by_cases h0 : a0 < 0
  · unfold cartridgelaw5_PathWrong.f
    rw [alive5_true]
    simp only [Option.bind_some, if_true]
    rw [if_pos h0]
  · by_cases h1 : a0 < 24
    · have := pw_in a0.toNat (by omega)
      rwa [show ((a0.toNat : Nat) : Int) = a0 by omega] at this
    · unfold cartridgelaw5_PathWrong.f
      rw [alive5_true]
      simp only [Option.bind_some, if_true]
      rw [if_neg h0, if_pos (by simp; omega)]

/-! the reference's parts -/
def mkB (l : List UInt8) : ByteArray := ⟨l.toArray⟩
theorem mkB_data (s : ByteArray) : mkB s.data.toList = s := by simp [mkB]
theorem bt_get (s : ByteArray) (i : Nat) (h : i < s.data.toList.length) : bt s (i : Int) = (s.data.toList[i].toNat : Int) := by
  have h' : i < s.size := by simpa using h
  unfold bt
  rw [dif_pos (by simpa using h')]
  rfl
theorem ext_one (s : ByteArray) (i : Nat) (h : i < s.data.toList.length) : s.extract i (i + 1) = mkB [s.data.toList[i]] := by
  apply ByteArray.ext
  apply Array.ext'
  have hd : (s.extract i (i + 1)).data.toList = (s.data.toList.drop i).take 1 := by
    rw [Lib.extract_data]; simp
  rw [hd, List.drop_eq_getElem_cons h]
  rfl
theorem app_mkB (a b : List UInt8) : mkB a ++ mkB b = mkB (a ++ b) := by
  apply ByteArray.ext
  simp [mkB, ByteArray.data_append]
theorem sp_bad (c : UInt8) (hc : okB c = false) : ∀ (t w : List UInt8), c ∈ w → (sp w t).all partOk = false
  | [], w, h => by
    have : w.all okB = false := by rw [List.all_eq_false]; exact ⟨c, h, by simp [hc]⟩
    simp [sp, partOk, this]
  | d :: t, w, h => by
    unfold sp
    split
    · have : w.all okB = false := by rw [List.all_eq_false]; exact ⟨c, h, by simp [hc]⟩
      rw [List.all_cons]
      simp [partOk, this]
    · exact sp_bad c hc t _ (by simp [h])

theorem okB_iff (c : UInt8) : okB c = true ↔ (97 ≤ c.toNat ∧ c.toNat ≤ 122) ∨ (48 ≤ c.toNat ∧ c.toNat ≤ 57) ∨ c.toNat = 46 ∨ c.toNat = 45 ∨ c.toNat = 95 := by
  simp [okB, UInt8.le_iff_toNat_le, ← UInt8.toNat_inj, or_assoc]

theorem j2_ok (k : Nat) (s : ByteArray) (l : List ByteArray) (w : List UInt8) (i : Nat) (hi : i < s.data.toList.length) (hw : w.length ≤ i) (hs : s.size ≤ 24) (ho : okB s.data.toList[i] = true) :
    cartridgeref1_PathParts.j2 (k + 1) s l (mkB w) (i : Int) false = cartridgeref1_PathParts.l0 k s l (mkB (w ++ [s.data.toList[i]])) ((i + 1 : Nat) : Int) := by
  have hsz : s.data.toList.length = s.size := by simp
  have hwr : wrap64 ((i : Int) + 1) = ((i + 1 : Nat) : Int) := by unfold wrap64; omega
  have hb := bt_get s i hi
  have hlt := (s.data.toList[i]).toNat_lt
  have ho' := (okB_iff _).1 ho
  have he : s.extract ((i : Int)).toNat (((i + 1 : Nat) : Int)).toNat = mkB [s.data.toList[i]] := by
    rw [Int.toNat_natCast, Int.toNat_natCast]; exact ext_one s i hi
  have hws : (mkB w).size = w.length := by simp [mkB, ByteArray.size]
  have hes : (mkB [s.data.toList[i]]).size = 1 := rfl
  simp only [cartridgeref1_PathParts.j2, Bool.false_eq_true, if_false, hwr, he, app_mkB, hb, hws, hes]
  generalize hc : (s.data.toList[i]).toNat = c at *
  clear he hb
  have a1 : (0 : Int) ≤ (i : Int) := by omega
  have a2 : (i : Int) < (s.size : Int) := by omega
  have a3 : (i : Int) ≤ ((i + 1 : Nat) : Int) := by omega
  have a4 : ((i + 1 : Nat) : Int) ≤ (s.size : Int) := by omega
  have a5 : w.length + 1 ≤ 9223372036854775807 := by omega
  simp only [a1, a2, a3, a4, a5, if_true]
  clear a1 a2 a3 a4 a5
  rcases ho' with h | h | h | h | h
  all_goals repeat (first | rw [if_pos (by omega)] | rw [if_neg (by omega)])

theorem j2_bad (k : Nat) (s : ByteArray) (l : List ByteArray) (w : ByteArray) (i : Nat) (hi : i < s.data.toList.length) (ho : okB s.data.toList[i] = false) :
    cartridgeref1_PathParts.j2 (k + 1) s l w (i : Int) false = some [] := by
  have hsz : s.data.toList.length = s.size := by simp
  have hb := bt_get s i hi
  have ho' : ¬ ((97 ≤ s.data.toList[i].toNat ∧ s.data.toList[i].toNat ≤ 122) ∨ (48 ≤ s.data.toList[i].toNat ∧ s.data.toList[i].toNat ≤ 57) ∨ s.data.toList[i].toNat = 46 ∨ s.data.toList[i].toNat = 45 ∨ s.data.toList[i].toNat = 95) := fun h => absurd ((okB_iff s.data.toList[i]).2 h) (by rw [ho]; simp)
  simp only [cartridgeref1_PathParts.j2, Bool.false_eq_true, if_false, hb]
  generalize hc : (s.data.toList[i]).toNat = c at *
  clear hb
  have a1 : (0 : Int) ≤ (i : Int) := by omega
  have a2 : (i : Int) < (s.size : Int) := by omega
  simp only [a1, a2, if_true]
  clear a1 a2
  by_cases h1 : c < 48
  · repeat (first | rw [if_pos (by omega)] | rw [if_neg (by omega)])
  · by_cases h2 : c < 97
    · repeat (first | rw [if_pos (by omega)] | rw [if_neg (by omega)])
    · repeat (first | rw [if_pos (by omega)] | rw [if_neg (by omega)])

theorem mkB_toList (w : List UInt8) : (mkB w).toList = w := by rw [Lib.toList_data]; simp [mkB]

theorem j2_cut (k : Nat) (s : ByteArray) (l : List ByteArray) (w : List UInt8) (i : Nat) (hw : w.all okB = true) (hi : i ≤ 24) (hl : l.length ≤ i) :
    cartridgeref1_PathParts.j2 (k + 2) s l (mkB w) (i : Int) true = if partOk w then cartridgeref1_PathParts.l0 k s (l ++ [mkB w]) (mkB []) ((i + 1 : Nat) : Int) else some [] := by
  have hwr : wrap64 ((i : Int) + 1) = ((i + 1 : Nat) : Int) := by unfold wrap64; omega
  simp only [cartridgeref1_PathParts.j2, if_true, mkB_toList, cartridgeref1_PathParts.j3, hwr]
  have hle : l.length < 8796093022208 := by omega
  by_cases h1 : w = []
  · subst h1; simp [partOk]
  · rw [if_neg h1]
    by_cases h2 : w = [46]
    · subst h2; simp [partOk]
    · rw [if_neg h2]
      by_cases h3 : w = [46, 46]
      · subst h3; simp [partOk]
      · have hp : partOk w = true := by simp [partOk, h1, h2, h3, hw]
        rw [hp]
        have e3 : (w == [46, 46]) = false := by simpa using h3
        simp only [e3, Bool.false_eq_true, if_false, hle, if_true]
        rfl

theorem parts_from (s : ByteArray) (hs : s.size ≤ 24) : ∀ (d i k : Nat) (l : List ByteArray) (w : List UInt8), s.size - i = d → i ≤ s.size → 3 * d + 5 ≤ k → w.all okB = true → w.length ≤ i → l.length ≤ i →
    cartridgeref1_PathParts.l0 k s l (mkB w) (i : Int) = some (if (sp w (s.data.toList.drop i)).all partOk then l ++ (sp w (s.data.toList.drop i)).map mkB else []) := by
  have hsz : s.data.toList.length = s.size := by simp
  intro d
  induction d with
  | zero =>
    intro i k l w hd hi hk hw hwl hll
    obtain rfl : i = s.size := by omega
    obtain ⟨k, rfl⟩ : ∃ m, k = m + 4 := ⟨k - 4, by omega⟩
    rw [List.drop_eq_nil_of_le (by omega)]
    have e : cartridgeref1_PathParts.l0 (k + 4) s l (mkB w) (s.size : Int) = cartridgeref1_PathParts.j2 (k + 3) s l (mkB w) (s.size : Int) true := by
      simp only [cartridgeref1_PathParts.l0]
      rw [if_pos (Int.le_refl _)]
      simp
    rw [e, j2_cut (k + 1) s l w s.size hw (by omega) hll]
    simp only [sp, List.all_cons, List.all_nil, Bool.and_true, List.map_cons, List.map_nil]
    split
    · simp only [cartridgeref1_PathParts.l0]
      rw [if_neg (by omega)]
    · rfl
  | succ d ih =>
    intro i k l w hd hi hk hw hwl hll
    obtain ⟨k, rfl⟩ : ∃ m, k = m + 4 := ⟨k - 4, by omega⟩
    have hlt : i < s.data.toList.length := by omega
    have hb := bt_get s i hlt
    rw [List.drop_eq_getElem_cons hlt]
    have e : cartridgeref1_PathParts.l0 (k + 4) s l (mkB w) (i : Int) = cartridgeref1_PathParts.j2 (k + 3) s l (mkB w) (i : Int) ((s.data.toList[i].toNat : Int) == 47) := by
      simp only [cartridgeref1_PathParts.l0, hb]
      rw [if_pos (by omega), if_neg (by omega), if_pos (by omega), if_pos (by omega)]
    rw [e]
    by_cases h47 : s.data.toList[i] = 47
    · have e1 : ((s.data.toList[i].toNat : Int) == 47) = true := by rw [h47]; rfl
      rw [e1, j2_cut (k + 1) s l w i hw (by omega) hll]
      have e2 : sp w (s.data.toList[i] :: s.data.toList.drop (i + 1)) = w :: sp [] (s.data.toList.drop (i + 1)) := by rw [sp, if_pos h47]
      rw [e2, List.all_cons]
      cases hp : partOk w with
      | false => simp
      | true =>
        simp only [if_true, Bool.true_and]
        rw [ih (i + 1) (k + 1) (l ++ [mkB w]) [] (by omega) (by omega) (by omega) rfl (by simp) (by simp; omega)]
        simp
    · have hne : (s.data.toList[i]).toNat ≠ 47 := fun h => h47 (UInt8.toNat_inj.1 (by rw [h]; rfl))
      have e1 : ((s.data.toList[i].toNat : Int) == 47) = false := beq_eq_false_iff_ne.2 (by omega)
      rw [e1]
      have e2 : sp w (s.data.toList[i] :: s.data.toList.drop (i + 1)) = sp (w ++ [s.data.toList[i]]) (s.data.toList.drop (i + 1)) := by rw [sp, if_neg h47]
      rw [e2]
      cases ho : okB s.data.toList[i] with
      | true =>
        rw [j2_ok (k + 2) s l w i hlt hwl hs ho]
        exact ih (i + 1) (k + 2) l _ (by omega) (by omega) (by omega) (by rw [List.all_append, hw, List.all_cons, ho]; rfl) (by rw [List.length_append, List.length_singleton]; omega) (by omega)
      | false =>
        rw [j2_bad (k + 2) s l (mkB w) i hlt ho, sp_bad _ ho _ _ (by simp)]
        simp

theorem sp_map (s : ByteArray) : (sp [] s.data.toList).map mkB = pieces s := by
  rw [← pieces_sp, List.map_map, show (mkB ∘ fun b : ByteArray => b.data.toList) = id from funext mkB_data, List.map_id]

theorem sp_nil : (sp [] ([] : List UInt8)).all partOk = false := rfl

theorem refParts (s : ByteArray) (k : Nat) (hk : 100 ≤ k) : cartridgeref1_PathParts.f k s = some (if rightB s then pieces s else []) := by
  obtain ⟨k, rfl⟩ : ∃ m, k = m + 1 := ⟨k - 1, by omega⟩
  rw [rightB_eq]
  unfold cartridgeref1_PathParts.f
  by_cases h1 : (s.size : Int) < 1
  · rw [if_pos h1]
    have : s.data.toList = [] := by
      apply List.eq_nil_of_length_eq_zero
      have : s.data.toList.length = s.size := by simp
      omega
    rw [this, sp_nil]
    simp [cartridgeref1_PathParts.j0]
  · rw [if_neg h1]
    by_cases h2 : (s.size : Int) > 24
    · have : decide (s.size ≤ 24) = false := by simp; omega
      rw [this]
      have h2' : decide ((s.size : Int) > 24) = true := by simpa using h2
      simp [cartridgeref1_PathParts.j0, h2']
    · have : decide (s.size ≤ 24) = true := by simp; omega
      have h2' : decide ((s.size : Int) > 24) = false := by simpa using h2
      rw [this, h2']
      simp only [cartridgeref1_PathParts.j0, Bool.false_eq_true, if_false, Bool.true_and]
      have := parts_from s (by omega) s.size 0 k [] [] (by omega) (by omega) (by omega) rfl (by simp) (by simp)
      rw [List.drop_zero, sp_map, List.nil_append] at this
      exact this

theorem pieces_pos (s : ByteArray) : 0 < (pieces s).length := by rw [pieces_len]; omega
theorem refRight (s : ByteArray) (k : Nat) (hk : 100 ≤ k) : cartridgeref1_RightPath.f k s = some (rightB s) := by
  unfold cartridgeref1_RightPath.f
  rw [refParts s k hk]
  simp only [Option.bind_some, Option.some.injEq]
  cases rightB s with
  | false => rfl
  | true => have := pieces_pos s; simp; omega

theorem same_from (l : List ByteArray) (hl : l.length ≤ 1000) : ∀ (d i k : Nat), l.length - i = d → i ≤ l.length → d < k → cartridgeref1_SameTexts.l0 k l l (i : Int) = some true := by
  intro d
  induction d with
  | zero =>
    intro i k hd hi hk
    obtain ⟨k, rfl⟩ : ∃ m, k = m + 1 := ⟨k - 1, by omega⟩
    simp only [cartridgeref1_SameTexts.l0]
    rw [if_neg (by omega)]
  | succ d ih =>
    intro i k hd hi hk
    obtain ⟨k, rfl⟩ : ∃ m, k = m + 1 := ⟨k - 1, by omega⟩
    have hwr : wrap64 ((i : Int) + 1) = ((i + 1 : Nat) : Int) := by unfold wrap64; omega
    simp only [cartridgeref1_SameTexts.l0]
    rw [if_pos (by omega), if_pos (by omega), if_pos (by omega), if_pos trivial, hwr]
    exact ih (i + 1) k (by omega) (by omega) (by omega)

theorem sameTexts (l : List ByteArray) (hl : l.length ≤ 1000) (k : Nat) (hk : 2000 ≤ k) : cartridgeref1_SameTexts.f k l l = some true := by
  unfold cartridgeref1_SameTexts.f
  rw [if_pos rfl]
  exact same_from l hl l.length 0 k (by omega) (by omega) (by omega)

def withinB (s d : ByteArray) : Bool := rightB s && rightB d && (decide (s = d) || decide (d.size < s.size) && ((s.extract 0 (d.size + 1)).toList == (d ++ (⟨#[47]⟩ : ByteArray)).toList))
theorem rightB_le (s : ByteArray) (h : rightB s = true) : s.size ≤ 24 := by simp [rightB] at h; exact h.1
theorem toList_inj (a b : ByteArray) : a.toList = b.toList ↔ a = b := by
  rw [Lib.toList_data, Lib.toList_data]
  exact ⟨fun h => ByteArray.ext (Array.ext' h), fun h => by rw [h]⟩
theorem sz_sign (d : ByteArray) : (d ++ (⟨#[47]⟩ : ByteArray)).size = d.size + 1 := by rw [ByteArray.size_append]; rfl

theorem withinOk (s d : ByteArray) : path_Within.f s d = some (withinB s d) := by
  unfold path_Within.f path_Right.f withinB
  simp only [Option.bind_some]
  cases h1 : rightB s with
  | false => simp
  | true =>
    cases h2 : rightB d with
    | false => simp
    | true =>
      have := rightB_le s h1
      have := rightB_le d h2
      simp only [if_true, Bool.true_and]
      by_cases e : s = d
      · subst e; simp
      · rw [if_neg (fun h => e ((toList_inj _ _).1 h)), if_pos (by omega)]
        have e' : decide (s = d) = false := by simpa using e
        unfold strings_HasPrefix.f stringslite_HasPrefix.f
        rw [e', sz_sign]
        by_cases hl : d.size < s.size
        · rw [if_pos (by omega), if_pos (by omega), if_pos (by omega)]
          simp [hl]
        · rw [if_neg (by omega)]
          simp [hl]

theorem withinRef (s d : ByteArray) (k : Nat) (hk : 100 ≤ k) : cartridgeref1_Within.f k s d = some (withinB s d) := by
  unfold cartridgeref1_Within.f withinB
  rw [refRight s k hk, refRight d k hk]
  simp only [Option.bind_some]
  cases h1 : rightB s with
  | false => simp
  | true =>
    cases h2 : rightB d with
    | false => simp
    | true =>
      have := rightB_le s h1
      have := rightB_le d h2
      simp only [if_true, Bool.true_and]
      by_cases e : s = d
      · subst e; simp
      · rw [if_neg (fun h => e ((toList_inj _ _).1 h))]
        have e' : decide (s = d) = false := by simpa using e
        have hwr : wrap64 ((d.size : Int) + 1) = ((d.size + 1 : Nat) : Int) := by unfold wrap64; omega
        rw [e', hwr]
        by_cases hl : d.size < s.size
        · rw [if_pos (by omega), if_pos (by omega), if_pos (by omega), if_pos (by omega)]
          simp [hl]
        · rw [if_neg (by omega)]
          simp [hl]

theorem pieces_le (s : ByteArray) (h : s.size ≤ 24) : (pieces s).length ≤ 1000 := by
  have := Lib.countB_le ⟨#[47]⟩ (Nat.le_refl 1) s.size s (Nat.le_refl _)
  rw [pieces_len]; omega

theorem PathTells_pure : cartridgelaw5_PathTells.Pure := by
  intro s d _ _
  refine ⟨5000, ?_⟩
  unfold cartridgelaw5_PathTells.f
  rw [alive5_true]
  simp only [Option.bind_some, if_true]
  have key : ∀ b, cartridgelaw5_PathTells.j0 5000 s d true b = some true := by
    intro b
    simp only [cartridgelaw5_PathTells.j0]
    cases b with
    | true => rfl
    | false =>
      simp only [Bool.false_eq_true, if_false]
      rw [refRight s _ (by omega), refParts s _ (by omega), withinOk, withinRef s d _ (by omega)]
      unfold path_Right.f path_Parts.f
      simp only [Option.bind_some, beq_self_eq_true, if_true]
      have hl : (if rightB s = true then pieces s else []).length ≤ 1000 := by
        split
        · rename_i h; exact pieces_le s (rightB_le s h)
        · simp
      rw [sameTexts _ hl _ (by omega)]
      simp
  split
  · exact key _
  · exact key _

/-! PathJoins -/
def tlj (r : List (List UInt8)) : List UInt8 := r.flatMap fun p => 47 :: p
theorem sp_jn : ∀ (l w : List UInt8), ∃ h t, sp w l = h :: t ∧ h ++ tlj t = w ++ l
  | [], w => ⟨w, [], rfl, by simp [tlj]⟩
  | c :: l, w => by
    by_cases hc : c = 47
    · obtain ⟨h, t, h1, h2⟩ := sp_jn l []
      refine ⟨w, sp [] l, by simp [sp, hc], ?_⟩
      rw [h1]
      show w ++ (47 :: h ++ tlj t) = _
      rw [List.cons_append, h2, hc]
      rfl
    · obtain ⟨h, t, h1, h2⟩ := sp_jn l (w ++ [c])
      refine ⟨h, t, by simp [sp, hc, h1], ?_⟩
      rw [h2]; simp
theorem sp_of (r : List (List UInt8)) (hr : ∀ q ∈ r, ∀ c ∈ q, c ≠ 47) : ∀ (p w : List UInt8), (∀ c ∈ p, c ≠ 47) → sp w (p ++ tlj r) = (w ++ p) :: r := by
  induction r with
  | nil =>
    intro p
    induction p with
    | nil => intro w _; simp [tlj, sp]
    | cons c p ih =>
      intro w h
      have hc := h c (by simp)
      have := ih (w ++ [c]) (fun d hd => h d (by simp [hd]))
      simp only [List.cons_append, sp, if_neg hc]
      rw [this]; simp
  | cons q r ihr =>
    intro p
    induction p with
    | nil =>
      intro w _
      have h2 := ihr (fun q' hq => hr q' (by simp [hq])) q [] (hr q (by simp))
      show sp w (47 :: (q ++ tlj r)) = _
      simp only [sp, if_true]
      rw [h2]; simp
    | cons c p ih =>
      intro w h
      have hc := h c (by simp)
      have := ih (w ++ [c]) (fun d hd => h d (by simp [hd]))
      simp only [List.cons_append, sp, if_neg hc]
      rw [this]; simp
theorem partOk_no47 {p : List UInt8} (h : partOk p = true) : ∀ c ∈ p, c ≠ 47 := by
  intro c hc e
  simp only [partOk, Bool.and_eq_true] at h
  have := List.all_eq_true.1 h.2 c hc
  subst e
  revert this; decide
theorem tlj_split (r : List (List UInt8)) (i : Nat) : tlj (r.take i) ++ tlj (r.drop i) = tlj r := by
  unfold tlj
  rw [← List.flatMap_append, List.take_append_drop]
theorem tlj_snoc (r : List (List UInt8)) (q : List UInt8) : tlj (r ++ [q]) = tlj r ++ 47 :: q := by
  simp [tlj]
theorem mkB_size (l : List UInt8) : (mkB l).size = l.length := by simp [mkB, ByteArray.size]
theorem mkB_l (l : List UInt8) : (mkB l).data.toList = l := by simp [mkB]
theorem sign_mkB (l : List UInt8) : mkB l ++ (⟨#[47]⟩ : ByteArray) = mkB (l ++ [47]) := app_mkB l [47]

section joins
variable (s : ByteArray) (p0 : List UInt8) (r : List (List UInt8)) (hs : rightB s = true) (hsp : sp [] s.data.toList = p0 :: r)
include hs hsp
theorem jo_all : ((p0 :: r).all partOk) = true := by
  have := rightB_eq s
  rw [hs, hsp] at this
  have h := this.symm
  rw [Bool.and_eq_true] at h
  exact h.2
theorem jo_pieces : pieces s = (p0 :: r).map mkB := by have _ := hs; rw [← sp_map, hsp]
theorem jo_B : s.data.toList = p0 ++ tlj r := by
  have _ := hs
  obtain ⟨h, t, h1, h2⟩ := sp_jn s.data.toList []
  rw [hsp] at h1
  obtain ⟨rfl, rfl⟩ := List.cons.inj h1
  simpa using h2.symm
theorem jo_len : (p0 ++ tlj r).length ≤ 24 := by
  have := rightB_le s hs
  rw [← jo_B s p0 r hs hsp]
  simpa using this
theorem jo_right (i : Nat) : rightB (mkB (p0 ++ tlj (r.take i))) = true := by
  have ha := jo_all s p0 r hs hsp
  rw [List.all_cons, Bool.and_eq_true] at ha
  have hr : ∀ q ∈ r, partOk q = true := List.all_eq_true.1 ha.2
  have hr' : ∀ q ∈ r.take i, partOk q = true := fun q hq => hr q (List.mem_of_mem_take hq)
  rw [rightB_eq, mkB_l, mkB_size, sp_of _ (fun q hq => partOk_no47 (hr' q hq)) _ _ (partOk_no47 ha.1)]
  have hl := jo_len s p0 r hs hsp
  rw [← tlj_split r i] at hl
  simp only [List.length_append] at hl ⊢
  have : decide (p0.length + (tlj (r.take i)).length ≤ 24) = true := by rw [decide_eq_true_eq]; omega
  rw [this, List.nil_append, List.all_cons, ha.1, List.all_eq_true.2 hr']
  rfl
theorem jo_eq (i : Nat) (hi : r.length ≤ i) : mkB (p0 ++ tlj (r.take i)) = s := by
  rw [List.take_of_length_le hi, ← jo_B s p0 r hs hsp, mkB_data]
theorem jo_lt (i : Nat) (hi : i < r.length) : (p0 ++ tlj (r.take i)).length < s.size ∧ (s.extract 0 ((p0 ++ tlj (r.take i)).length + 1)).data.toList = p0 ++ tlj (r.take i) ++ [47] := by
  have hB := jo_B s p0 r hs hsp
  have hd : r.drop i = r[i] :: r.drop (i + 1) := List.drop_eq_getElem_cons hi
  have e : s.data.toList = (p0 ++ tlj (r.take i)) ++ 47 :: (r[i] ++ tlj (r.drop (i + 1))) := by
    rw [hB, ← tlj_split r i, hd, List.append_assoc]
    rfl
  have hsz : s.data.toList.length = s.size := by simp
  constructor
  · rw [← hsz, e]; simp only [List.length_append, List.length_cons]; omega
  · rw [Lib.extract_from_zero, e, List.take_append, List.take_of_length_le (by omega)]
    simp
theorem jo_within (i : Nat) : withinB s (mkB (p0 ++ tlj (r.take i))) = true := by
  unfold withinB
  rw [hs, jo_right s p0 r hs hsp i]
  by_cases hi : r.length ≤ i
  · rw [jo_eq s p0 r hs hsp i hi]; simp
  · obtain ⟨h1, h2⟩ := jo_lt s p0 r hs hsp i (by omega)
    rw [mkB_size, sign_mkB, Lib.toList_data, Lib.toList_data, h2, mkB_l]
    simp only [decide_eq_true h1]
    simp
theorem jo_back (i : Nat) : withinB (mkB (p0 ++ tlj (r.take i))) s = ((mkB (p0 ++ tlj (r.take i))).toList == s.toList) := by
  unfold withinB
  rw [hs, jo_right s p0 r hs hsp i]
  have hn : decide (s.size < (mkB (p0 ++ tlj (r.take i))).size) = false := by
    have hB := jo_B s p0 r hs hsp
    rw [← tlj_split r i] at hB
    have hsz : s.data.toList.length = s.size := by simp
    rw [← hsz, mkB_size, hB, decide_eq_false_iff_not]
    simp only [List.length_append]
    omega
  rw [hn]
  simp only [Bool.true_and, Bool.false_and, Bool.or_false]
  rw [Bool.eq_iff_iff]
  simp only [decide_eq_true_eq, beq_iff_eq]
  exact (toList_inj _ _).symm

theorem joins_from : ∀ (d i k : Nat) (t : ByteArray), r.length + 1 - i = d → i ≤ r.length + 1 → 2 * d + 2 ≤ k → t = (if i = 0 then mkB [] else mkB (p0 ++ tlj (r.take (i - 1)))) → cartridgelaw5_PathJoins.l0 k s (pieces s) t (i : Int) = some true := by
  have hP := jo_pieces s p0 r hs hsp
  have hlen : (pieces s).length = r.length + 1 := by rw [hP]; simp
  have hle := pieces_le s (rightB_le s hs)
  intro d
  induction d with
  | zero =>
    intro i k t hd hi hk ht
    obtain rfl : i = r.length + 1 := by omega
    obtain ⟨k, rfl⟩ : ∃ m, k = m + 1 := ⟨k - 1, by omega⟩
    simp only [cartridgelaw5_PathJoins.l0]
    rw [if_neg (by omega), ht, if_neg (by omega), Nat.add_sub_cancel, jo_eq s p0 r hs hsp _ (Nat.le_refl _)]
    simp
  | succ d ih =>
    intro i k t hd hi hk ht
    obtain ⟨k, rfl⟩ : ∃ m, k = m + 2 := ⟨k - 2, by omega⟩
    have hX : ∀ t', t' ++ rdOf ByteArray.empty (pieces s) (i : Int) = mkB (p0 ++ tlj (r.take i)) → t'.size ≤ 100 → cartridgelaw5_PathJoins.j2 (k + 1) s (pieces s) t' (i : Int) = some true := by
      intro t' hX ht'
      simp only [cartridgelaw5_PathJoins.j2]
      have hsz : t'.size + (rdOf ByteArray.empty (pieces s) (i : Int)).size ≤ 24 := by
        have h1 := congrArg ByteArray.size hX
        rw [ByteArray.size_append] at h1
        have h2 := rightB_le _ (jo_right s p0 r hs hsp i)
        omega
      rw [if_pos (by omega), if_pos (by omega), if_pos (by omega), hX, withinOk, withinOk, jo_within s p0 r hs hsp i, jo_back s p0 r hs hsp i]
      unfold path_Right.f
      rw [jo_right s p0 r hs hsp i]
      simp only [Option.bind_some, if_true, bne_self_eq_false, Bool.false_eq_true, if_false]
      have hwr : wrap64 ((i : Int) + 1) = ((i + 1 : Nat) : Int) := by unfold wrap64; omega
      rw [hwr]
      exact ih (i + 1) k _ (by omega) (by omega) (by omega) (by rw [if_neg (by omega), Nat.add_sub_cancel])
    have hrd : rdOf ByteArray.empty (pieces s) (i : Int) = mkB ((p0 :: r).getD i []) := by
      unfold rdOf
      rw [hP, Int.toNat_natCast, List.getD_eq_getElem?_getD, List.getD_eq_getElem?_getD, List.getElem?_map, List.getElem?_eq_getElem (show i < (p0 :: r).length by simp; omega)]
      rfl
    simp only [cartridgelaw5_PathJoins.l0]
    rw [if_pos (by omega)]
    by_cases h0 : i = 0
    · subst h0
      rw [if_neg (by omega)]
      refine hX t ?_ ?_
      · rw [hrd, ht, if_pos rfl, app_mkB]
        simp [tlj]
      · rw [ht, if_pos rfl, mkB_size]; simp
    · rw [if_neg h0] at ht
      have ht24 : t.size ≤ 24 := by rw [ht]; exact rightB_le _ (jo_right s p0 r hs hsp (i - 1))
      rw [if_pos (by omega), if_pos (by omega)]
      refine hX _ ?_ (by rw [sz_sign]; omega)
      rw [hrd, ht, sign_mkB, app_mkB]
      congr 1
      obtain ⟨j, rfl⟩ : ∃ j, i = j + 1 := ⟨i - 1, by omega⟩
      have hj : j < r.length := by omega
      rw [Nat.add_sub_cancel, List.take_succ_eq_append_getElem hj, tlj_snoc]
      have : (p0 :: r).getD (j + 1) [] = r[j] := by rw [List.getD_eq_getElem?_getD, List.getElem?_cons_succ, List.getElem?_eq_getElem hj]; rfl
      rw [this]; simp
end joins

theorem PathJoins_pure : cartridgelaw5_PathJoins.Pure := by
  intro s _
  refine ⟨5000, ?_⟩
  unfold cartridgelaw5_PathJoins.f
  rw [alive5_true, refRight s _ (by omega)]
  simp only [Option.bind_some, if_true]
  have key : ∀ b, (b = false → rightB s = true) → cartridgelaw5_PathJoins.j0 5000 s true b = some true := by
    intro b hb
    simp only [cartridgelaw5_PathJoins.j0]
    cases b with
    | true => rfl
    | false =>
      have hr := hb rfl
      obtain ⟨p0, r, hsp, _⟩ := sp_jn s.data.toList []
      have hle := pieces_le s (rightB_le s hr)
      have hlen : (pieces s).length = r.length + 1 := by rw [jo_pieces s p0 r hr hsp]; simp
      unfold path_Parts.f
      rw [hr]
      simp only [Bool.false_eq_true, if_false, if_true, Option.bind_some]
      exact joins_from s p0 r hr hsp (r.length + 1) 0 _ _ (by omega) (by omega) (by omega) (by rw [if_pos rfl]; rfl)
  split
  · exact key _ (by simp)
  · exact key _ (by simp)

end Go.Proofs.YtjhbannlgaiipaaDoor.P
