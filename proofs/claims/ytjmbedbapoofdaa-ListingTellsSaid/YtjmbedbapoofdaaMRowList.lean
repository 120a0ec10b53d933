/- Lists of files as a law's argument: told in the printed kinds' words. -/
import Derived.Test.YtjmbedbapoofdaaPx0
import Derived.Test.YtjmbedbapoofdaaMListPure
import Derived.Test.YtjmbedbapoofdaaMRowKd
namespace Go.Proofs.Ytjmbedbapoofdaa.P
open Go.RowKit Go.Proofs.YtjmbedbapoofdaaW.PrintWords Go.Proofs.YtjmbedbapoofdaaW.PrintLast Go.Proofs.YtjmbedbapoofdaaW.PrintMore
set_option linter.unusedVariables false
set_option linter.unusedSimpArgs false

section
variable {H : Type} (enc : TypeId × Value → H) (w : World) (spr : Nat → Bool)
theorem tkStr : TK enc Try.prog w spr 9 Kd.string (fun s => s.size ≤ reachBytes) := TK.string Try.underlying9 (by kernel_rfl)
theorem tkInt : TK enc Try.prog w spr 3 (Kd.int .i64) (fun n => (Lit.int .i64 n).wf = true) := TK.int Try.underlying3 (by kernel_rfl)
theorem tkBool : TK enc Try.prog w spr 4 Kd.bool (fun _ => True) := TK.bool Try.underlying4 (by kernel_rfl)
theorem tkHead : TK enc Try.prog w spr 45 k45 (fun _ => True) := by
  have h := TK.iso (fun x : S45 => (x.f0, x.f1, x.f2, x.f3, x.f4, x.f5, x.f6, x.f7)) (fun p => ⟨p.1, p.2.1, p.2.2.1, p.2.2.2.1, p.2.2.2.2.1, p.2.2.2.2.2.1, p.2.2.2.2.2.2.1, p.2.2.2.2.2.2.2⟩) (fun _ => rfl)
    (TK.struct Try.underlying45 (by kernel_rfl) (TF.cons (tkStr enc w spr) rfl (TF.cons (tkInt enc w spr) rfl (TF.cons (tkInt enc w spr) rfl (TF.cons (tkInt enc w spr) rfl (TF.cons (tkInt enc w spr) rfl (TF.cons (tkInt enc w spr) rfl (TF.cons (tkInt enc w spr) rfl (TF.one (tkBool enc w spr) rfl) rfl) rfl) rfl) rfl) rfl) rfl) rfl))
  exact ⟨h.1, fun f c x hx hw_ => (h.2 f c x hx hw_).imp fun _ hh => ⟨hh.1, trivial⟩⟩
theorem tkPart : TK enc Try.prog w spr 47 k47 (fun _ => True) := by
  have h := TK.iso (fun x : S47 => (x.f0, x.f1, x.f2)) (fun p => ⟨p.1, p.2.1, p.2.2⟩) (fun _ => rfl)
    (TK.struct Try.underlying47 (by kernel_rfl) (TF.cons (tkHead enc w spr) rfl (TF.cons (tkInt enc w spr) rfl (TF.one (tkInt enc w spr) rfl) rfl) rfl))
  exact ⟨h.1, fun f c x hx hw_ => (h.2 f c x hx hw_).imp fun _ hh => ⟨hh.1, trivial⟩⟩
theorem tkFile : TK enc Try.prog w spr 28 k28 (fun x => (Lit.int .i64 x.f1).wf = true ∧ (Lit.int .i64 x.f4).wf = true ∧ small x) := by
  have h := TK.iso (fun x : S28 => (x.f0, x.f1, x.f2, x.f3, x.f4, x.f5, x.f6)) (fun p => ⟨p.1, p.2.1, p.2.2.1, p.2.2.2.1, p.2.2.2.2.1, p.2.2.2.2.2.1, p.2.2.2.2.2.2⟩) (fun _ => rfl)
    (TK.struct Try.underlying28 (by kernel_rfl) (TF.cons (tkStr enc w spr) rfl (TF.cons (tkInt enc w spr) rfl (TF.cons (tkInt enc w spr) rfl (TF.cons (tkInt enc w spr) rfl (TF.cons (tkInt enc w spr) rfl (TF.cons (tkBool enc w spr) rfl (TF.one (TK.slice Try.underlying26 (by kernel_rfl) (tkPart enc w spr)) rfl) rfl) rfl) rfl) rfl) rfl) rfl))
  exact ⟨h.1, fun f c x hx hw_ => (h.2 f c x hx hw_).imp fun _ hh => ⟨hh.1, hh.2.2.1, hh.2.2.2.2.2.1, by have z := hh.2.2.2.2.2.2.2.1; rw [show Try.prog.bytesOf 47 = 88 by kernel_rfl] at z; exact Nat.le_trans z (by decide)⟩⟩
theorem tkFiles : TK enc Try.prog w spr 22 (Kd.slice 28 k28) (fun l => l.length * Try.prog.bytesOf 28 ≤ reachBytes ∧ ∀ x ∈ l, (Lit.int .i64 x.f1).wf = true ∧ (Lit.int .i64 x.f4).wf = true ∧ small x) := TK.slice Try.underlying22 (by kernel_rfl) (tkFile enc w spr)
end

end Go.Proofs.Ytjmbedbapoofdaa.P
