/- slices.Sort and slices.Compact at []string, over rows of the caller's own (out of the library's contracts at this dump). -/
import Derived.Test.YtjmbedbapoofdaaPx0
import Derived.Test.YtjmbedbapoofdaaShelf
import Derived.Lib.OwnBridge
namespace Go.Proofs.Ytjmbedbapoofdaa.P
open Go.RowKit Go.Proofs.YtjmbedbapoofdaaW.PrintWords Go.Proofs.YtjmbedbapoofdaaW.PrintLast Go.Proofs.YtjmbedbapoofdaaW.PrintMore
set_option linter.unusedVariables false
set_option linter.unusedSimpArgs false

def lb (l : List ByteArray) : List (List UInt8) := l.map (fun x => x.data.toList)
def bl (l : List (List UInt8)) : List ByteArray := l.map (fun x => ⟨x.toArray⟩)
theorem lb_bl (l : List (List UInt8)) : lb (bl l) = l := by
  rw [lb, bl, List.map_map]
  exact (List.map_congr_left (fun x _ => by simp)).trans (List.map_id l)
theorem bl_lb (l : List ByteArray) : bl (lb l) = l := by
  rw [lb, bl, List.map_map]
  exact (List.map_congr_left (fun x _ => by simp)).trans (List.map_id l)
theorem bl_length (l : List (List UInt8)) : (bl l).length = l.length := by simp [bl]
theorem lb_length (l : List ByteArray) : (lb l).length = l.length := by simp [lb]
theorem encs_lb (l : List ByteArray) : encs Value.string l = (lb l).map encStr := by
  rw [lb, Lib.map_encStr]; rfl
theorem encs_bl (l : List (List UInt8)) : encs Value.string (bl l) = l.map encStr := by
  rw [encs_lb, lb_bl]
def slices_Sort_string_string.f (l0 : List ByteArray) : Option (List ByteArray) := if l0.length < 4611686018427387904 then some (bl ((lb l0).mergeSort fun x y => decide (x ≤ y))) else none
def slices_Compact_string_string.f (l0 : List ByteArray) : Option (List ByteArray) := if l0.length < 4611686018427387904 then some (bl (Lib.compact (lb l0))) else none
theorem grow_put_own {w : World} {base g n cap q : Nat} {e : TypeId} {zs ys : List (List UInt8)} {os : Array Obj} (h : w.ownsRow base e 1 (.slice (some ⟨g, 0, none⟩) n cap) n (zs.map encStr)) (hy : ys.length = n) (hg : g < w.heap.size) :
    (Sort.grow (Sort.putRow encStr (Sort.ahead w q) g 0 ys.toArray) os).ownsRow base e 1 (.slice (some ⟨g, 0, none⟩) n cap) n (ys.map encStr) := by
  have h1 := Lib.ownsRow_putRow (q := q) h hy (Nat.le_refl n)
  rw [List.take_of_length_le (by omega)] at h1
  refine own_move h1 (fun k hk => ?_)
  have : g = k := by simpa [Value.ownBlock] using hk
  subst this
  simp only [Sort.grow]
  rw [Array.getElem?_append_left (by simpa [Sort.ahead] using hg)]
theorem kept_put {w w' : World} {S : Nat → Prop} {g : Nat} (hs : S g) (hsz : w.heap.size ≤ w'.heap.size) (h : ∀ k, k < w.heap.size → k ≠ g → w'.heap[k]? = w.heap[k]?) : Kept w w' S :=
  ⟨hsz, fun i hi hn => h i hi (fun e => hn (e ▸ hs))⟩
theorem put_other (w : World) (g q k : Nat) (d : Array (List UInt8)) (os : Array Obj) (hk : k < w.heap.size) (hne : k ≠ g) : (Sort.grow (Sort.putRow encStr (Sort.ahead w q) g 0 d) os).heap[k]? = w.heap[k]? := by
  simp only [Sort.grow]
  rw [Array.getElem?_append_left (by simpa [Sort.ahead] using hk)]
  simp [Sort.putRow, Sort.mapBlock, Sort.ahead, Array.getElem?_modify, show g ≠ k from fun e => hne e.symm]
theorem put_below {B : Nat} {w0 w : World} {g q : Nat} {d : Array (List UInt8)} {os : Array Obj} (h : Below B w0 w) (hB : B ≤ w0.heap.size) (hg : B ≤ g) : Below B w0 (Sort.grow (Sort.putRow encStr (Sort.ahead w q) g 0 d) os) := by
  have h1 : Below B w0 (Sort.putRow encStr (Sort.ahead w q) g 0 d) := Lib.below_putRow h hg
  refine ⟨h1.os, h1.tape, h1.output, Nat.le_trans h1.size (by simp [Sort.grow]), fun k hk => ?_⟩
  rw [← h1.block k hk]
  simp only [Sort.grow]
  rw [Array.getElem?_append_left]
  exact Nat.lt_of_lt_of_le hk (Nat.le_trans hB h1.size)
theorem slices_Sort_string_string.calls (P0_ : Nat → Prop) (u9000_ : Value) (l0 : List ByteArray) (r : List ByteArray) (w0 w : World) (hB : Below w0.heap.size w0 w) (ho0 : Kd.R Kd.string 9 w w0.heap.size P0_ u9000_ l0) (h : slices_Sort_string_string.f l0 = some r) :
    Calls Try.prog 19 #[u9000_] w fun e w' => e = .returned (.tuple #[]) ∧ Kd.R Kd.string 9 w' w0.heap.size (fun k_ => (P0_ k_ ∨ w.heap.size ≤ k_)) u9000_ r ∧ Below w0.heap.size w0 w' ∧ Kept w w' (fun k_ => P0_ k_) := by
  unfold slices_Sort_string_string.f at h
  by_cases hl : l0.length < 4611686018427387904
  · rw [if_pos hl] at h
    obtain rfl := Option.some.inj h
    clear h
    have how : w.ownsRow w0.heap.size 9 1 u9000_ l0.length ((lb l0).map encStr) := by
      have := Kd.own_of_R ho0
      rwa [encs_lb] at this
    by_cases hv : u9000_ = .slice none 0 0
    · subst hv
      have h0 : l0 = [] := by
        rcases how.2 with ⟨_, h0⟩ | ⟨g, cap, cur, e1, _⟩
        · exact List.eq_nil_of_length_eq_zero h0
        · cases e1
      subst h0
      refine Calls.mono (Try.slices_Sort_string_none none 0 w) ?_
      rintro e w' ⟨rfl, rfl⟩
      exact ⟨rfl, by simpa [lb, bl] using Kd.R_nil Kd.string 9 _ _ _, hB, Kept.refl _ _⟩
    · obtain ⟨g, cap, rfl, hbg, hlt, hn, hm, hz, hH⟩ := Lib.holds_of_ownsRow how hv
      refine Calls.mono (by have := Try.slices_Sort_string g 0 cap (lb l0) w hH hlt (by rw [lb_length]; exact hl); rw [lb_length] at this; exact this) ?_
      rintro e w' ⟨rfl, q, os, rfl⟩
      have hy : ((lb l0).mergeSort fun x y => decide (x ≤ y)).length = l0.length := by rw [List.length_mergeSort, lb_length]
      refine ⟨rfl, Kd.R_of_own (h1 := fun _ => rfl) (by rw [bl_length, hy, encs_bl]; exact grow_put_own how hy hlt) (fun k hk => .inl (ho0.1 k hk)), put_below hB (Nat.le_refl _) hbg, kept_put (g := g) (ho0.1 g rfl) (by simp [Sort.grow, Sort.ahead]) (fun k hk hne => put_other _ _ _ _ _ _ hk hne)⟩
  · rw [if_neg hl] at h
    cases h
theorem slices_Compact_string_string.calls (P0_ : Nat → Prop) (u9000_ : Value) (l0 : List ByteArray) (r : List ByteArray) (w0 w : World) (hB : Below w0.heap.size w0 w) (ho0 : Kd.R Kd.string 9 w w0.heap.size P0_ u9000_ l0) (h : slices_Compact_string_string.f l0 = some r) :
    Calls Try.prog 20 #[u9000_] w fun e w' => ∃ v0_ : Value, e = .returned (v0_) ∧ Kd.R Kd.string 9 w' w0.heap.size (fun k_ => (P0_ k_ ∨ w.heap.size ≤ k_)) v0_ r ∧ Below w0.heap.size w0 w' ∧ Kept w w' (fun k_ => P0_ k_) := by
  unfold slices_Compact_string_string.f at h
  by_cases hl : l0.length < 4611686018427387904
  · rw [if_pos hl] at h
    obtain rfl := Option.some.inj h
    clear h
    have how : w.ownsRow w0.heap.size 9 1 u9000_ l0.length ((lb l0).map encStr) := by
      have := Kd.own_of_R ho0
      rwa [encs_lb] at this
    by_cases hv : u9000_ = .slice none 0 0
    · subst hv
      have h0 : l0 = [] := by
        rcases how.2 with ⟨_, h0⟩ | ⟨g, cap, cur, e1, _⟩
        · exact List.eq_nil_of_length_eq_zero h0
        · cases e1
      subst h0
      refine Calls.mono (Try.slices_Compact_string_empty none 0 w) ?_
      rintro e w' ⟨rfl, rfl⟩
      exact ⟨_, rfl, by simpa [lb, bl, Lib.compact, Lib.compactUpTo] using Kd.R_nil Kd.string 9 _ _ _, hB, Kept.refl _ _⟩
    · obtain ⟨g, cap, rfl, hbg, hlt, hn, hm, hz, hH⟩ := Lib.holds_of_ownsRow how hv
      refine Calls.mono (by have := Try.slices_Compact_string g 0 cap (lb l0) w hH (by rw [lb_length]; omega) (by rw [lb_length]; exact hn); rw [lb_length] at this; exact this) ?_
      rintro e w' ⟨rfl, q, rfl⟩
      have hle : (Lib.compact (lb l0)).length ≤ l0.length := by rw [← lb_length l0]; exact Lib.compact_length_le _
      have hy : (Lib.compact (lb l0) ++ List.replicate (l0.length - (Lib.compact (lb l0)).length) []).length = l0.length := by rw [List.length_append, List.length_replicate]; omega
      have hown := Lib.ownsRow_putRow (q := q) (k := (Lib.compact (lb l0)).length) how hy hle
      rw [List.take_left] at hown
      refine ⟨_, rfl, Kd.R_of_own (h1 := fun _ => rfl) (by rw [bl_length, encs_bl]; exact hown) (fun k hk => .inl (ho0.1 k hk)), Lib.below_putRow hB hbg, kept_put (g := g) (ho0.1 g rfl) (by simp [Sort.ahead]) (fun k hk hne => ?_)⟩
      simp [Sort.putRow, Sort.mapBlock, Sort.ahead, Array.getElem?_modify, show g ≠ k from fun e => hne e.symm]
  · rw [if_neg hl] at h
    cases h

end Go.Proofs.Ytjmbedbapoofdaa.P
