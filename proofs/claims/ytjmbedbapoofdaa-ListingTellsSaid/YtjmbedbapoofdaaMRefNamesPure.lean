/- The reference's names are the plain ones. -/
import Derived.Test.YtjmbedbapoofdaaPx0
import Derived.Test.YtjmbedbapoofdaaMListNamesWalk
import Derived.Test.YtjmbedbapoofdaaMListPure
import Derived.Test.YtjmbedbapoofdaaMRefNames
import Derived.Test.YtjmbedbapoofdaaMSortS
import Derived.Laws.Cover1
namespace Go.Proofs.Ytjmbedbapoofdaa.P
open Go.RowKit Go.Proofs.YtjmbedbapoofdaaW.PrintWords Go.Proofs.YtjmbedbapoofdaaW.PrintLast Go.Proofs.YtjmbedbapoofdaaW.PrintMore
set_option linter.unusedVariables false
set_option linter.unusedSimpArgs false

theorem bl_lt (a b : ByteArray) : Op.bytesLess a.toList b.toList = decide (a.data.toList < b.data.toList) := by
  rw [Proofs.bytesLess_eq, Lib.toList_data, Lib.toList_data]
theorem eqb (a b : ByteArray) : (a.toList == b.toList) = decide (a = b) := by
  rw [Lib.toList_data, Lib.toList_data, Bool.eq_iff_iff]
  simp only [beq_iff_eq, decide_eq_true_eq]
  exact ⟨fun h => ba_ext h, fun h => by rw [h]⟩
theorem insB_cons (p q : ByteArray) (o : List ByteArray) : insB p (q :: o) = if q.data.toList < p.data.toList then q :: insB p o else if q = p then q :: o else p :: q :: o := by
  by_cases h : q.data.toList < p.data.toList
  · have hk : kk p (q :: o) = kk p o + 1 := by simp [kk, bl_lt, h]
    have he : eqAt p (q :: o) = eqAt p o := by simp [eqAt, hk]
    rw [if_pos h]
    unfold insB
    rw [he, hk]
    split <;> simp
  · have hk : kk p (q :: o) = 0 := by simp [kk, bl_lt, h]
    have he : eqAt p (q :: o) = decide (q = p) := by simp only [eqAt, hk, List.getElem?_cons_zero]; exact eqb q p
    rw [if_neg h]
    unfold insB
    rw [he, hk]
    by_cases e : q = p <;> simp [e]
theorem insB_spec (p : ByteArray) : ∀ o : List ByteArray, (lb o).Pairwise (fun x y => x < y) → (lb (insB p o)).Pairwise (fun x y => x < y) ∧ ∀ x, x ∈ insB p o ↔ x = p ∨ x ∈ o
  | [], _ => by
    have : insB p [] = [p] := by simp [insB, eqAt, kk]
    rw [this]
    simp [lb]
  | q :: o, h => by
    have hp : ∀ y ∈ lb o, q.data.toList < y := (List.pairwise_cons.1 h).1
    have h2 := (List.pairwise_cons.1 h).2
    rw [insB_cons]
    by_cases hq : q.data.toList < p.data.toList
    · rw [if_pos hq]
      obtain ⟨i1, i2⟩ := insB_spec p o h2
      refine ⟨List.pairwise_cons.2 ⟨fun y hy => ?_, i1⟩, fun x => ?_⟩
      · obtain ⟨z, hz, rfl⟩ := List.mem_map.1 hy
        rcases (i2 z).1 hz with rfl | hz
        · exact hq
        · exact hp _ (List.mem_map.2 ⟨z, hz, rfl⟩)
      · rw [List.mem_cons, i2 x, List.mem_cons]
        constructor
        · rintro (h | h | h) <;> simp [h]
        · rintro (h | h | h) <;> simp [h]
    · rw [if_neg hq]
      by_cases e : q = p
      · subst e
        rw [if_pos rfl]
        exact ⟨h, fun x => by simp⟩
      · rw [if_neg e]
        have hlt : p.data.toList < q.data.toList := by
          refine List.not_le.1 (fun hh => hq (List.not_le.1 (fun h3 => e (ba_ext (List.le_antisymm hh h3)))))
        refine ⟨List.pairwise_cons.2 ⟨fun y hy => ?_, h⟩, fun x => by simp⟩
        rcases List.mem_cons.1 hy with rfl | hy
        · exact hlt
        · exact List.lt_trans hlt (hp y hy)
theorem stN_spec (l : List File) : ∀ i, i ≤ l.length → (lb (stN l i)).Pairwise (fun x y => x < y) ∧ ∀ x, x ∈ stN l i ↔ ∃ y ∈ l.take i, y.f0 = x ∧ (NewestS l x).2 = true
  | 0, _ => by simp [stN, lb]
  | i + 1, hi => by
    obtain ⟨h1, h2⟩ := stN_spec l i (by omega)
    rw [stN_succ l i (by omega), List.take_succ_eq_append_getElem (by omega)]
    unfold rnStep
    by_cases hn : (NewestS l (l[i]).f0).2 = true
    · rw [if_pos hn]
      obtain ⟨g1, g2⟩ := insB_spec (l[i]).f0 _ h1
      refine ⟨g1, fun x => ?_⟩
      rw [g2 x, h2 x]
      constructor
      · rintro (rfl | ⟨y, hy, h⟩)
        · exact ⟨l[i], List.mem_append.2 (.inr (List.mem_singleton.2 rfl)), rfl, hn⟩
        · exact ⟨y, List.mem_append.2 (.inl hy), h⟩
      · rintro ⟨y, hy, rfl, h⟩
        rcases List.mem_append.1 hy with hy | hy
        · exact .inr ⟨y, hy, rfl, h⟩
        · obtain rfl := List.mem_singleton.1 hy
          exact .inl rfl
    · rw [if_neg hn]
      refine ⟨h1, fun x => ?_⟩
      rw [h2 x]
      constructor
      · rintro ⟨y, hy, h⟩
        exact ⟨y, List.mem_append.2 (.inl hy), h⟩
      · rintro ⟨y, hy, rfl, h⟩
        rcases List.mem_append.1 hy with hy | hy
        · exact ⟨y, hy, rfl, h⟩
        · obtain rfl := List.mem_singleton.1 hy
          exact absurd h hn
theorem lb_inj {a b : List ByteArray} (h : lb a = lb b) : a = b := by rw [← bl_lb a, h, bl_lb]
theorem stN_names (l : List File) : stN l l.length = namesS l := by
  refine lb_inj (strict_ext _ _ (stN_spec l l.length (Nat.le_refl _)).1 (names_spec l).2 (fun x => ?_))
  obtain ⟨y, rfl⟩ : ∃ y : ByteArray, y.data.toList = x := ⟨⟨x.toArray⟩, by simp⟩
  rw [lb_mem, lb_mem, names_mem, (stN_spec l l.length (Nat.le_refl _)).2, List.take_length]
theorem refNames_eq (k : Nat) (l : List File) (hl : l.length ≤ 100000) : cartridgeref10_Names.f k l = some (namesS l) := by
  unfold cartridgeref10_Names.f
  rw [if_pos hl, stN_names]

end Go.Proofs.Ytjmbedbapoofdaa.P
