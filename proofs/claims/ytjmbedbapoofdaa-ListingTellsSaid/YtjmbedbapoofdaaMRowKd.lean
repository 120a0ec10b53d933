/- What a law's argument reads as, told in the printed kinds' words: whole numbers, bools, texts, structs, slices, at any depth. -/
import Derived.Test.YtjmbedbapoofdaaPx0
import Derived.Deep.Slices
import Derived.ChangeArms
namespace Go.Proofs.Ytjmbedbapoofdaa.P
open Go.RowKit Go.Proofs.YtjmbedbapoofdaaW.PrintWords Go.Proofs.YtjmbedbapoofdaaW.PrintLast Go.Proofs.YtjmbedbapoofdaaW.PrintMore
set_option linter.unusedVariables false
set_option linter.unusedSimpArgs false

section
variable {H : Type} {enc : TypeId × Value → H} {P : Program} {w : World} {spr : Nat → Bool}
/-- Whatever reads as a value of type t is told by kind d, and bears Q. -/
def TK (enc : TypeId × Value → H) (P : Program) (w : World) (spr : Nat → Bool) {α : Type} (t : TypeId) (d : Kd α) (Q : α → Prop) : Prop :=
  P.cellsOf t = d.sz ∧ ∀ fuel cs x, DataW.trod enc P w 0 spr true fuel t cs = some x → (∀ n ∈ x.1.weights P t, n ≤ reachBytes) → ∃ a, d.K w a cs ∧ Q a
theorem all_mem {P : Program} {e : TypeId} {n : Nat} : ∀ {l : List (DataW H)} {d : DataW H}, d ∈ l → n ∈ d.weights P e → n ∈ DataW.weightsAll P e l
  | y :: r, d, hd, hn => by
    rw [DataW.weightsAll, List.mem_append]
    rcases List.mem_cons.1 hd with rfl | hd
    · exact .inl hn
    · exact .inr (all_mem hd hn)
theorem each_mem {P : Program} {n : Nat} : ∀ {ts : List TypeId} {l : List (DataW H)} {i : Nat} {t : TypeId} {d : DataW H}, ts[i]? = some t → l[i]? = some d → n ∈ d.weights P t → n ∈ DataW.weightsEach P ts l
  | t' :: ts, y :: r, 0, t, d, h1, h2, hn => by
    cases h1; cases h2
    rw [DataW.weightsEach, List.mem_append]; exact .inl hn
  | t' :: ts, y :: r, i + 1, t, d, h1, h2, hn => by
    rw [DataW.weightsEach, List.mem_append]; exact .inr (each_mem (i := i) (by simpa using h1) (by simpa using h2) hn)
theorem TK.int {t : TypeId} {k : IntKind} (ht : P.underlying t = some (.int k)) (hc : P.cellsOf t = 1) : TK enc P w spr t (Kd.int k) (fun n => (Lit.int k n).wf = true) :=
  ⟨hc, fun _ _ _ h hw_ => by obtain ⟨n, rfl, _, hw⟩ := DataW.trod_int ht h; exact ⟨n, rfl, hw⟩⟩
theorem TK.bool {t : TypeId} (ht : P.underlying t = some .bool) (hc : P.cellsOf t = 1) : TK enc P w spr t Kd.bool (fun _ => True) :=
  ⟨hc, fun _ _ _ h hw_ => by obtain ⟨b, rfl, _⟩ := DataW.trod_bool ht h; exact ⟨b, rfl, trivial⟩⟩
theorem TK.string {t : TypeId} (ht : P.underlying t = some .string) (hc : P.cellsOf t = 1) : TK enc P w spr t Kd.string (fun s => s.size ≤ reachBytes) :=
  ⟨hc, fun _ _ _ h hw_ => by obtain ⟨s, rfl, rfl, hs⟩ := DataW.trod_string ht h; exact ⟨s, rfl, by simpa [DataW.weights] using hw_⟩⟩
theorem TK.slice {α : Type} {t e : TypeId} {d : Kd α} {Q : α → Prop} (ht : P.underlying t = some (.slice e)) (hc : P.cellsOf t = 1) (he : TK enc P w spr e d Q) : TK enc P w spr t (Kd.slice e d) (fun l => l.length * P.bytesOf e ≤ reachBytes ∧ ∀ x ∈ l, Q x) := by
  refine ⟨hc, fun fuel cs x h hw_ => ?_⟩
  rcases Deep.open_slice ht h with ⟨rfl, _⟩ | ⟨a, len, cap, m, n, D, Pl, rfl, _, hl, hm, hmm, rfl, hel⟩
  · exact ⟨[], ⟨none, 0, rfl, Nat.le_refl _, rfl, by simp, fun h => absurd h (Nat.lt_irrefl _)⟩, by simp, by simp⟩
  · have hlm : len ≤ m := by rw [hmm]; split <;> omega
    simp only [DataW.weights, ht, List.mem_cons, List.mem_append, List.length_map, List.length_range] at hw_
    have hbytes : len * P.bytesOf e ≤ reachBytes := Nat.le_trans (Nat.mul_le_mul_right _ (by omega)) (hw_ _ (.inl rfl))
    have each : ∀ i : Fin len, ∃ b : α, Q b ∧ ∃ c, c.length = d.sz ∧ d.K w b c ∧ ∀ j u, c[j]? = some u → w.cell? (a.add (i.val * d.sz + j)) = some u := by
      intro i
      obtain ⟨cs', h1, h2⟩ := hel i.val (by have := i.isLt; omega)
      obtain ⟨b, hb, hq⟩ := he.2 _ _ _ h2 (fun k hk => hw_ k (.inr (.inl (all_mem (List.mem_map.2 ⟨i.val, List.mem_range.2 i.isLt, rfl⟩) hk))))
      rw [he.1] at h1
      obtain ⟨_, hlen, hcell⟩ := World.cells?_some h1
      refine ⟨b, hq, cs', hlen, hb, fun j u hu => ?_⟩
      have hj : j < d.sz := by rw [← hlen]; exact (List.getElem?_eq_some_iff.1 hu).1
      rw [← Deep.add_add, hcell j hj, hu]
    obtain ⟨f, hf⟩ := Classical.axiomOfChoice each
    have hlen : (List.ofFn f).length = len := List.length_ofFn
    refine ⟨List.ofFn f, ⟨some a, cap, by rw [hlen], by rw [hlen]; exact hl, rfl, ?_, fun hp => ⟨a, rfl, fun j p hj => ?_⟩⟩, by rw [hlen]; exact hbytes, ?_⟩
    · rw [hlen]; exact Nat.le_trans hl (Nat.le_trans hm (by decide))
    · obtain ⟨hj1, rfl⟩ := List.getElem?_eq_some_iff.1 hj
      rw [List.getElem_ofFn]
      exact (hf ⟨j, by rw [← hlen]; exact hj1⟩).2
    · intro x hx
      obtain ⟨i, rfl⟩ := List.mem_ofFn.1 hx
      exact (hf i).1
/-- A struct's fields from offset o on. -/
def TF (enc : TypeId × Value → H) (P : Program) (w : World) (spr : Nat → Bool) {α : Type} (o : Nat) (fs : List Field) (d : Kd α) (Q : α → Prop) : Prop :=
  ∀ (n : Nat) (cs : List Value), (∀ f ∈ fs, ∃ x, DataW.trod enc P w 0 spr true n f.type ((cs.drop f.offset).take (P.cellsOf f.type)) = some x ∧ ∀ k ∈ x.1.weights P f.type, k ≤ reachBytes) → ∃ a, d.K w a ((cs.drop o).take d.sz) ∧ Q a
theorem TF.one {α : Type} {f : Field} {d : Kd α} {Q : α → Prop} {o : Nat} (h : TK enc P w spr f.type d Q) (ho : f.offset = o) : TF enc P w spr o [f] d Q := by
  intro n cs hx
  obtain ⟨x, hx, hw_⟩ := hx f (List.mem_cons_self ..)
  rw [ho, h.1] at hx
  exact h.2 _ _ _ hx hw_
theorem TF.cons {α β : Type} {f : Field} {fs : List Field} {d : Kd α} {d' : Kd β} {Q : α → Prop} {Q' : β → Prop} {o o' : Nat} (h : TK enc P w spr f.type d Q) (ho : f.offset = o) (h' : TF enc P w spr o' fs d' Q') (ho' : o' = o + d.sz) : TF enc P w spr o (f :: fs) (Kd.pair d d') (fun p => Q p.1 ∧ Q' p.2) := by
  intro n cs hx
  obtain ⟨x, h1, hw_⟩ := hx f (List.mem_cons_self ..)
  rw [ho, h.1] at h1
  obtain ⟨a, ha, qa⟩ := h.2 _ _ _ h1 hw_
  obtain ⟨b, hb, qb⟩ := h' n cs (fun g hg => hx g (List.mem_cons_of_mem _ hg))
  refine ⟨(a, b), ⟨_, _, ?_, ha, hb⟩, qa, qb⟩
  subst ho'
  show (cs.drop o).take (d.sz + d'.sz) = _
  rw [List.take_add, List.drop_drop]
theorem TK.struct {α : Type} {t : TypeId} {fs : List Field} {d : Kd α} {Q : α → Prop} (ht : P.underlying t = some (.struct fs.toArray)) (hc : P.cellsOf t = d.sz) (h : TF enc P w spr 0 fs d Q) : TK enc P w spr t d Q := by
  refine ⟨hc, fun fuel cs x hx hw_ => ?_⟩
  obtain ⟨xs, n, _, rfl, hl, hxl, hf⟩ := DataW.trod_struct ht hx
  obtain ⟨a, ha, qa⟩ := h n cs (fun f hm => by
    obtain ⟨i, hi, rfl⟩ := List.getElem_of_mem hm
    have := hf i fs[i] (by simp [hi])
    rw [List.getElem?_eq_getElem (by rw [hxl]; simpa using hi)] at this
    refine ⟨_, this, fun k hk => hw_ k ?_⟩
    simp only [DataW.weights, ht]
    exact each_mem (i := i) (t := fs[i].type) (by simp [hi]) (by simp [List.getElem?_map, List.getElem?_eq_getElem (show i < xs.length by rw [hxl]; simpa using hi)]) hk)
  rw [List.drop_zero, List.take_of_length_le (by omega)] at ha
  exact ⟨a, ha, qa⟩
theorem TK.iso {α β : Type} {t : TypeId} {d : Kd α} {Q : α → Prop} (f : β → α) (g : α → β) (hg : ∀ a, f (g a) = a) (h : TK enc P w spr t d Q) : TK enc P w spr t (Kd.iso d f) (fun b => Q (f b)) :=
  ⟨h.1, fun fuel cs x hx hw_ => by
    obtain ⟨a, ha, qa⟩ := h.2 fuel cs x hx hw_
    exact ⟨g a, by show d.K w (f (g a)) cs; rw [hg]; exact ha, by show Q (f (g a)); rw [hg]; exact qa⟩⟩
end

end Go.Proofs.Ytjmbedbapoofdaa.P
