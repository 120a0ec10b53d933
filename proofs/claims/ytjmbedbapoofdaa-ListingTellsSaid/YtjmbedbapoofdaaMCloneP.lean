/- slices.Clone[[]api.Part,api.Part]: a copy of what is read, in memory of the call's own. -/
import Derived.Test.YtjmbedbapoofdaaPx0
import Derived.Lib.SliceRun
namespace Go.Proofs.Ytjmbedbapoofdaa.P
open Go.RowKit Go.Proofs.YtjmbedbapoofdaaW.PrintWords Go.Proofs.YtjmbedbapoofdaaW.PrintLast Go.Proofs.YtjmbedbapoofdaaW.PrintMore
set_option linter.unusedVariables false
set_option linter.unusedSimpArgs false

def zPart : Value := .agg #[.string ⟨#[]⟩, .int .i64 0, .int .i64 0, .int .i64 0, .int .i64 0, .int .i64 0, .int .i64 0, .bool false, .int .i64 0, .int .i64 0]
theorem mi_cloneP : (Try.prog.info? 47).map (fun i => (i.zero, i.size, i.bytes)) = some (some zPart, 10, 88) := by kernel_rfl
def api_Part.f (l0 : List S47) : Option (List S47) := if l0.length * 88 ≤ 140737488355328 then some l0 else none
set_option maxHeartbeats 2000000 in
theorem api_Part.calls (A0 : Option Addr) (c0 : Nat) (l0 : List S47) (r : List S47) (w : World) (hr0 : Kd.C k47 w A0 l0.length l0) (hc0 : l0.length ≤ c0) (h : api_Part.f l0 = some r) :
    Calls Try.prog 39 #[.slice A0 l0.length c0] w fun e w' => ∃ v0_ : Value, e = .returned (v0_) ∧ Kd.R k47 47 w' w.heap.size (fun _ => True) v0_ r ∧ Below w.heap.size w w' := by
  unfold api_Part.f at h
  by_cases hl : l0.length * 88 ≤ 140737488355328
  · rw [if_pos hl] at h
    obtain rfl := Option.some.inj h
    clear h
    have qn : ∀ (w : World) (a : Option Addr) (n c n' c' : Nat), (binOp .eql 26 (.slice a n c) (.slice none n' c')).run Try.prog w = .ok (.bool a.isNone) w := fun w a n c n' c' => Lib.run_eql_slice_nil w _ _ a n c n' c' Try.underlying26
    rcases A0 with _ | ad
    · have h0 : l0 = [] := by
        rcases Nat.eq_zero_or_pos l0.length with h0 | h0
        · exact List.eq_nil_of_length_eq_zero h0
        · obtain ⟨_, h, _⟩ := hr0.2.2 h0
          cases h
      subst h0
      clear hr0 hl
      go_enter Try.func39, Try.ntmps39
      go_wp2
      go_ret
      exact ⟨_, rfl, Kd.R_nil _ _ _ _ _, Below.refl _ _⟩
    · have HR := Aside0.mk hr0
      have HL := Aside0.mk hl
      clear hr0 hl
      go_enter Try.func39, Try.ntmps39
      go_wp2_with (first | (at_builtin; refine Kd.R_append_rows k47 (w0 := w) w.heap.size rfl (.tmp 5) (.tmp 6) 26 47 zPart 88 rfl Try.underlying26 mi_cloneP rfl (by decide) (by omega) _ [] l0 _ _ _ (fun _ => True) (fun _ => False) rfl rfl ?aO ?aR (fun _ _ h => h) (fun _ h => h.elim) ?aF ?aB ?aS ?aL ?_; (case aR => exact (by apply Kd.C_alloc; exact HR.out)); (case aB => exact (below_alloc (Below.refl _ _) _)); (case aF => exact (fun _ _ => trivial)); (case aO => exact ⟨fun _ _ => trivial, [], World.ownsRow_made w #[] 0 (Nat.le_refl _) (Nat.zero_le _) rfl, Reps.none _ _⟩); (case aS => exact below_size (below_alloc (Below.refl _ _) _)); (case aL => have := HL.out; simp only [List.length_nil, Nat.zero_add]; exact this); intro v1 w1 ho hb1 hgr hat; rw [List.nil_append] at ho))
      go_ret
      exact ⟨_, rfl, ho, hb1⟩
  · rw [if_neg hl] at h
    cases h

end Go.Proofs.Ytjmbedbapoofdaa.P
