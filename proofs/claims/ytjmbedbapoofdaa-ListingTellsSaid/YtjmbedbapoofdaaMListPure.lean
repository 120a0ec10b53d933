/- Plain law for chapter 18: newest, Newest, Get, Next, Serial, Names over lists of files. -/
import Derived.Test.YtjmbedbapoofdaaPx0
import Derived.Test.YtjmbedbapoofdaaPx5
import Derived.Test.YtjmbedbapoofdaaPx6
import Derived.Test.YtjmbedbapoofdaaMCloneP
import Derived.Test.YtjmbedbapoofdaaMSortS
import Derived.Lib.MinMaxS
namespace Go.Proofs.Ytjmbedbapoofdaa.P
open Go.RowKit Go.Proofs.YtjmbedbapoofdaaW.PrintWords Go.Proofs.YtjmbedbapoofdaaW.PrintLast Go.Proofs.YtjmbedbapoofdaaW.PrintMore
set_option linter.unusedVariables false
set_option linter.unusedSimpArgs false

abbrev File := S28
def zFile : File := z28
def nwS (p : ByteArray) (s : File × Bool) (x : File) : File × Bool := if x.f0.toList = p.toList ∧ (s.2 = true → x.f1 > s.1.f1) then (x, true) else s
def newestS (l : List File) (p : ByteArray) : File × Bool := l.foldl (nwS p) (zFile, false)
def tup (s : File × Bool) : ByteArray × Int × Int × Int × Int × Bool × (List S47) × Bool := (s.1.f0, s.1.f1, s.1.f2, s.1.f3, s.1.f4, s.1.f5, s.1.f6, s.2)
theorem rd_file (l : List File) (i : Nat) (h : i < l.length) : rd_T28 l (i : Int) = l[i] := by
  simp [rd_T28, List.getElem?_eq_getElem h]
theorem newest_l0 (p : ByteArray) (l : List File) (hl : l.length ≤ 4611686018427387904) : ∀ (n i k : Nat) (s : File × Bool), i + n = l.length → n < k → listing_newest.l0 k p s.2 l (l.length : Int) (i : Int) s.1.f0 s.1.f1 s.1.f2 s.1.f3 s.1.f4 s.1.f5 s.1.f6 = some (tup ((l.drop i).foldl (nwS p) s))
  | 0, i, k + 1, s, hi, hk => by
    rw [listing_newest.l0, if_neg (by omega), List.drop_of_length_le (by omega)]
    rfl
  | n + 1, i, k + 1, s, hi, hk => by
    have hwr : wrap64 ((i : Int) + 1) = ((i + 1 : Nat) : Int) := by unfold wrap64; omega
    have hlt : i < l.length := by omega
    rw [listing_newest.l0, if_pos (by omega), if_pos (by omega), if_pos (by omega), hwr, rd_file l i hlt, List.drop_eq_getElem_cons hlt, List.foldl_cons]
    have h1 := fun s' => newest_l0 p l hl n (i + 1) k s' (by omega) (by omega)
    obtain ⟨⟨s0, s1, s2, s3, s4, s5, s6⟩, sb⟩ := s
    by_cases hp : (l[i].f0).toList = p.toList
    · rw [if_pos hp]
      cases sb with
      | true =>
        simp only [if_true]
        by_cases hv : l[i].f1 > s1
        · rw [if_pos hv, show nwS p (⟨s0, s1, s2, s3, s4, s5, s6⟩, true) l[i] = (l[i], true) from if_pos ⟨hp, fun _ => hv⟩]
          exact h1 (l[i], true)
        · rw [if_neg hv, show nwS p (⟨s0, s1, s2, s3, s4, s5, s6⟩, true) l[i] = (⟨s0, s1, s2, s3, s4, s5, s6⟩, true) from if_neg (fun hh => hv (hh.2 rfl))]
          exact h1 (⟨s0, s1, s2, s3, s4, s5, s6⟩, true)
      | false =>
        simp only [Bool.false_eq_true, if_false]
        rw [show nwS p (⟨s0, s1, s2, s3, s4, s5, s6⟩, false) l[i] = (l[i], true) from if_pos ⟨hp, fun h => by cases h⟩]
        exact h1 (l[i], true)
    · rw [if_neg hp, show nwS p (⟨s0, s1, s2, s3, s4, s5, s6⟩, sb) l[i] = (⟨s0, s1, s2, s3, s4, s5, s6⟩, sb) from if_neg (fun hh => hp hh.1)]
      exact h1 (⟨s0, s1, s2, s3, s4, s5, s6⟩, sb)
theorem newest_eq (k : Nat) (l : List File) (p : ByteArray) (hl : l.length ≤ 4611686018427387904) (hk : l.length < k) : listing_newest.f k l p = some (tup (newestS l p)) := by
  have := newest_l0 p l hl l.length 0 k (zFile, false) (by omega) hk
  rw [List.drop_zero] at this
  exact this
/-- Parts that may be copied. -/
def small (x : File) : Prop := x.f6.length * 88 ≤ 140737488355328
def thereS (s : File × Bool) : File × Bool := if s.2 = true ∧ s.1.f5 = false then s else (zFile, false)
theorem there_eq (s : File × Bool) (h : small s.1) : listing_there.f s.1.f0 s.1.f1 s.1.f2 s.1.f3 s.1.f4 s.1.f5 s.1.f6 s.2 = some (tup (thereS s)) := by
  obtain ⟨⟨s0, s1, s2, s3, s4, s5, s6⟩, sb⟩ := s
  unfold listing_there.f listing_Clone.f api_Part.f
  have h' : s6.length * 88 ≤ 140737488355328 := h
  cases sb <;> cases s5 <;> simp [thereS, tup, zFile, z28, h']
theorem nwS_small (p : ByteArray) (l : List File) (hs : ∀ x ∈ l, small x) : ∀ s : File × Bool, small s.1 → small (l.foldl (nwS p) s).1 := by
  induction l with
  | nil => exact fun s h => h
  | cons x l ih =>
    intro s h
    rw [List.foldl_cons]
    refine ih (fun y hy => hs y (List.mem_cons_of_mem _ hy)) _ ?_
    unfold nwS
    split
    · exact hs x (List.mem_cons_self ..)
    · exact h
def NewestS (l : List File) (p : ByteArray) : File × Bool := thereS (newestS l p)
theorem Newest_eq (k : Nat) (l : List File) (p : ByteArray) (hl : l.length ≤ 4611686018427387904) (hk : l.length < k) (hs : ∀ x ∈ l, small x) : listing_Newest.f k l p = some (tup (NewestS l p)) := by
  unfold listing_Newest.f
  rw [newest_eq k l p hl hk, Option.bind_some]
  have := there_eq (newestS l p) (nwS_small p l hs _ (by simp [small, zFile, z28]))
  simp only [tup]
  rw [this, Option.bind_some]
  rfl
theorem Next_eq (k : Nat) (l : List File) (p : ByteArray) (hl : l.length ≤ 4611686018427387904) (hk : l.length < k) : listing_Next.f k l p = some (if (newestS l p).2 = true then wrap64 ((newestS l p).1.f1 + 1) else 1) := by
  unfold listing_Next.f
  rw [newest_eq k l p hl hk, Option.bind_some]
  obtain ⟨s, b⟩ := newestS l p
  cases b <;> rfl
theorem Serial_l0 (l : List File) (hl : l.length ≤ 4611686018427387904) : ∀ (n i k : Nat) (s : Int), i + n = l.length → n < k → listing_Serial.l0 k s l (l.length : Int) (i : Int) = some (wrap64 (((l.drop i).foldl (fun a x => mx a x.f4) s) + 1))
  | 0, i, k + 1, s, hi, hk => by
    rw [listing_Serial.l0, if_neg (by omega), List.drop_of_length_le (by omega)]
    rfl
  | n + 1, i, k + 1, s, hi, hk => by
    have hwr : wrap64 ((i : Int) + 1) = ((i + 1 : Nat) : Int) := by unfold wrap64; omega
    have hlt : i < l.length := by omega
    rw [listing_Serial.l0, if_pos (by omega), if_pos (by omega), if_pos (by omega), hwr, rd_file l i hlt, List.drop_eq_getElem_cons hlt, List.foldl_cons]
    exact Serial_l0 l hl n (i + 1) k _ (by omega) (by omega)
def SerialS (l : List File) : Int := match l with
  | [] => 1
  | x :: r => wrap64 (((x :: r).foldl (fun a x => mx a x.f4) x.f4) + 1)
theorem Serial_eq (k : Nat) (l : List File) (hl : l.length ≤ 4611686018427387904) (hk : l.length < k) : listing_Serial.f k l = some (SerialS l) := by
  unfold listing_Serial.f
  cases l with
  | nil => rfl
  | cons x r =>
    rw [if_neg (by simp only [List.length_cons]; omega), if_pos (by simp only [List.length_cons]; omega)]
    have := Serial_l0 (x :: r) hl (r.length + 1) 0 k x.f4 (by simp) (by simpa using hk)
    rw [List.drop_zero] at this
    exact this
def namesRaw (l : List File) : List ByteArray := (l.filter (fun x => (NewestS l x.f0).2)).map (·.f0)
def namesS (l : List File) : List ByteArray := bl (Lib.compact ((lb (namesRaw l)).mergeSort fun x y => decide (x ≤ y)))
theorem Names_l0 (l : List File) (hl : l.length ≤ 1000000) (hs : ∀ x ∈ l, small x) : ∀ (n i k : Nat) (o : List ByteArray), i + n = l.length → o.length ≤ i → n + l.length + 1 < k → listing_Names.l0 k l o l (l.length : Int) (i : Int) = some (bl (Lib.compact ((lb (o ++ ((l.drop i).filter (fun x => (NewestS l x.f0).2)).map (·.f0))).mergeSort fun x y => decide (x ≤ y))))
  | 0, i, k + 1, o, hi, ho, hk => by
    rw [listing_Names.l0, if_neg (by omega), List.drop_of_length_le (by omega)]
    simp only [List.filter_nil, List.map_nil, List.append_nil]
    rw [slices_Sort_string_string.f, if_pos (by omega), Option.bind_some, slices_Compact_string_string.f, if_pos (by rw [bl_length, List.length_mergeSort, lb_length]; omega), Option.bind_some, lb_bl]
  | n + 1, i, k + 1, o, hi, ho, hk => by
    have hwr : wrap64 ((i : Int) + 1) = ((i + 1 : Nat) : Int) := by unfold wrap64; omega
    have hlt : i < l.length := by omega
    rw [listing_Names.l0, if_pos (by omega), if_pos (by omega), if_pos (by omega), hwr, rd_file l i hlt, Newest_eq k l _ (by omega) (by omega) hs, Option.bind_some, List.drop_eq_getElem_cons hlt]
    by_cases hb : (NewestS l (l[i].f0)).2 = true
    · rw [show (tup (NewestS l (l[i].f0))).2.2.2.2.2.2.2 = true from hb, if_pos rfl, if_pos (by omega), List.filter_cons_of_pos (p := fun x : File => (NewestS l x.f0).2) hb, List.map_cons]
      rw [Names_l0 l hl hs n (i + 1) k (o ++ [l[i].f0]) (by omega) (by simp; omega) (by omega)]
      simp
    · rw [show (tup (NewestS l (l[i].f0))).2.2.2.2.2.2.2 = false from by simpa [tup] using hb, if_neg (by simp), List.filter_cons_of_neg (p := fun x : File => (NewestS l x.f0).2) hb]
      exact Names_l0 l hl hs n (i + 1) k o (by omega) (by omega) (by omega)
theorem Names_eq (k : Nat) (l : List File) (hl : l.length ≤ 1000000) (hs : ∀ x ∈ l, small x) (hk : 2 * l.length + 1 < k) : listing_Names.f k l = some (namesS l) := by
  have := Names_l0 l hl hs l.length 0 k [] (by omega) (by simp) (by omega)
  rw [List.drop_zero] at this
  exact this
/-! The sorted lists without repetitions -/
theorem compact_sorted (zs : List (List UInt8)) (h : zs.Pairwise (fun x y => decide (x ≤ y) = true)) : (∀ x, x ∈ Lib.compact zs ↔ x ∈ zs) ∧ (Lib.compact zs).Pairwise (fun x y => x < y) := by
  have key : ∀ m, m ≤ zs.length → ((∀ x, x ∈ Lib.compactUpTo zs.toArray m ↔ x ∈ zs.take m) ∧ (Lib.compactUpTo zs.toArray m).Pairwise (fun x y => x < y)) := by
    intro m
    induction m with
    | zero => intro _; simp [Lib.compactUpTo]
    | succ m ih =>
      intro hm
      obtain ⟨h1, h2⟩ := ih (by omega)
      have hlt : m < zs.length := by omega
      have hg : zs.toArray[m]! = zs[m] := by rw [getElem!_pos _ m (by simpa using hlt)]; simp
      have hle : ∀ j, j < m → ∀ hj : j < zs.length, zs[j] ≤ zs[m] := fun j hjm hj => of_decide_eq_true (List.pairwise_iff_getElem.1 h j m hj hlt hjm)
      rw [Lib.compactUpTo_succ, hg, List.take_succ_eq_append_getElem hlt]
      by_cases hk : Lib.keeps zs.toArray m = true
      · rw [if_pos hk]
        refine ⟨fun x => by rw [List.mem_append, List.mem_append, h1 x], ?_⟩
        rw [List.pairwise_append]
        refine ⟨h2, List.pairwise_singleton _ _, fun x hx y hy => ?_⟩
        obtain rfl := List.mem_singleton.1 hy
        have hx' := (h1 x).1 hx
        obtain ⟨j, hj, rfl⟩ := List.mem_take_iff_getElem.1 hx'
        have hjm : j < m := by omega
        simp only [Lib.keeps, decide_eq_true_eq] at hk
        rcases hk with hk | hk
        · omega
        · rw [hg, getElem!_pos _ (m - 1) (by simp; omega)] at hk
          simp only [List.getElem_toArray] at hk
          have ha : zs[m - 1] ≤ zs[m] := hle (m - 1) (by omega) (by omega)
          have hb : zs[j] ≤ zs[m - 1] := by
            rcases Nat.lt_or_ge j (m - 1) with hjj | hjj
            · exact of_decide_eq_true (List.pairwise_iff_getElem.1 h j (m - 1) (by omega) (by omega) hjj)
            · have : j = m - 1 := by omega
              subst this
              exact List.le_refl _
          have hlt1 : zs[m - 1] < zs[m] := List.not_le.1 (fun hh => hk (List.le_antisymm hh ha))
          exact List.lt_of_le_of_lt hb hlt1
      · rw [if_neg hk, List.append_nil]
        refine ⟨fun x => ?_, h2⟩
        simp only [Lib.keeps, decide_eq_true_eq] at hk
        have hm0 : m ≠ 0 := fun h => hk (.inl h)
        have he : zs[m] = zs[m - 1] := by
          have := Classical.not_not.1 (fun hh => hk (.inr hh))
          rw [hg, getElem!_pos _ (m - 1) (by simp; omega)] at this
          simpa using this
        rw [h1 x, List.mem_append, List.mem_singleton]
        refine ⟨.inl, fun hh => hh.elim id (fun hx => ?_)⟩
        rw [hx, he]
        exact List.mem_take_iff_getElem.2 ⟨m - 1, by omega, rfl⟩
  have := key zs.length (Nat.le_refl _)
  rwa [List.take_length] at this

theorem strict_ext : ∀ (a b : List (List UInt8)), a.Pairwise (fun x y => x < y) → b.Pairwise (fun x y => x < y) → (∀ x, x ∈ a ↔ x ∈ b) → a = b
  | [], [], _, _, _ => rfl
  | [], y :: b, _, _, h => by have := (h y).2 (List.mem_cons_self ..); cases this
  | x :: a, [], _, _, h => by have := (h x).1 (List.mem_cons_self ..); cases this
  | x :: a, y :: b, ha, hb, h => by
    rw [List.pairwise_cons] at ha hb
    have hxy : x = y := by
      rcases List.mem_cons.1 ((h x).1 (List.mem_cons_self ..)) with e | e
      · exact e
      · rcases List.mem_cons.1 ((h y).2 (List.mem_cons_self ..)) with e' | e'
        · exact e'.symm
        · exact absurd (hb.1 x e) (List.not_lt.2 (List.le_of_lt (ha.1 y e')))
    subst hxy
    rw [strict_ext a b ha.2 hb.2 (fun z => ⟨fun hz => ?_, fun hz => ?_⟩)]
    · rcases List.mem_cons.1 ((h z).1 (List.mem_cons_of_mem _ hz)) with e | e
      · subst e; exact absurd (ha.1 z hz) (List.lt_irrefl _)
      · exact e
    · rcases List.mem_cons.1 ((h z).2 (List.mem_cons_of_mem _ hz)) with e | e
      · subst e; exact absurd (hb.1 z hz) (List.lt_irrefl _)
      · exact e
theorem names_spec (l : List File) : (∀ x, x ∈ lb (namesS l) ↔ x ∈ lb (namesRaw l)) ∧ (lb (namesS l)).Pairwise (fun x y => x < y) := by
  unfold namesS
  rw [lb_bl]
  have htr : ∀ a b c : List UInt8, decide (a ≤ b) = true → decide (b ≤ c) = true → decide (a ≤ c) = true := fun a b c hab hbc => decide_eq_true (List.le_trans (of_decide_eq_true hab) (of_decide_eq_true hbc))
  have hto : ∀ a b : List UInt8, (decide (a ≤ b) || decide (b ≤ a)) = true := fun a b => by
    have h := List.le_total (α := UInt8) a b
    rcases h with h | h <;> simp [h]
  have h := compact_sorted ((lb (namesRaw l)).mergeSort fun x y => decide (x ≤ y)) (List.pairwise_mergeSort htr hto _)
  exact ⟨fun x => (h.1 x).trans List.mem_mergeSort, h.2⟩

end Go.Proofs.Ytjmbedbapoofdaa.P
