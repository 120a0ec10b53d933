/- slices.IndexFunc at []api.File with listing.Get's own predicate: the first file of a path and a version. -/
import Derived.Test.YtjmbedbapoofdaaPx0
import Derived.Shelf.SlicesQ.IndexFunc
import Derived.Lib.SliceRun
import Derived.DataReads
namespace Go.Proofs.Ytjmbedbapoofdaa.P
open Go.RowKit Go.Proofs.YtjmbedbapoofdaaW.PrintWords Go.Proofs.YtjmbedbapoofdaaW.PrintLast Go.Proofs.YtjmbedbapoofdaaW.PrintMore
set_option linter.unusedVariables false
set_option linter.unusedSimpArgs false

def lays6_ren : Go.Shelf.Ren := ⟨fun | 6 => 23 | n => n, fun | 22 => 22 | 23 => 28 | 25 => 43 | 3 => 3 | 0 => 0 | 4 => 4 | n => n, fun | n => n⟩
theorem lays6 : Go.Proofs.SlLaysH0.n6 Try.prog lays6_ren := {
  mixed := by kernel_rfl
  f6 := ⟨Try.f23.name, by decide, Try.func23.trans (congrArg some (by kernel_rfl))⟩
  t0 := Try.underlying0
  a0 := Try.isAgg0
  z0 := Try.sizeOf0
  v0 := Try.zeroValue0
  t3 := Try.underlying3
  a3 := Try.isAgg3
  z3 := Try.sizeOf3
  v3 := Try.zeroValue3
  t4 := Try.underlying4
  a4 := Try.isAgg4
  z4 := Try.sizeOf4
  v4 := Try.zeroValue4
  t22 := Try.underlying22
  a22 := Try.isAgg22
  z22 := Try.sizeOf22
  v22 := Try.zeroValue22
  t25 := Try.underlying43
  a25 := Try.isAgg43
  z25 := Try.sizeOf43
  v25 := Try.zeroValue43 }

def encF (x : S28 × Value) : List Value := [.string x.1.f0, .int .i64 x.1.f1, .int .i64 x.1.f2, .int .i64 x.1.f3, .int .i64 x.1.f4, .bool x.1.f5, x.2]
def predF (path : ByteArray) (ver : Int) (x : S28) : Bool := decide (x.f0.toList = path.toList) && decide (x.f1 = ver)
instance : Inhabited (S28 × Value) := ⟨(z28, .slice none 0 0)⟩

set_option maxHeartbeats 2000000 in
theorem pred_get (path : ByteArray) (ver : Int) (B1 B2 : Nat) (w : World) (h1 : B1 < w.heap.size) (h2 : B2 < w.heap.size) (c1 : w.cell? ⟨B1, 0, none⟩ = some (.string path)) (c2 : w.cell? ⟨B2, 0, none⟩ = some (.int .i64 ver)) :
    PredBelow Try.prog 24 #[.pointer (some ⟨B1, 0, none⟩), .pointer (some ⟨B2, 0, none⟩)] (fun x => .agg (encF x).toArray) (fun x => predF path ver x.1) w := fun W x hb => by
  obtain ⟨⟨f0, f1, f2, f3, f4, f5, f6⟩, v⟩ := x
  have d1 : W.cell? ⟨B1, 0, none⟩ = some (.string path) := (hb.cell (p := ⟨B1, 0, none⟩) h1).trans c1
  have d2 : W.cell? ⟨B2, 0, none⟩ = some (.int .i64 ver) := (hb.cell (p := ⟨B2, 0, none⟩) h2).trans c2
  have e1 : B1 < W.heap.size := Nat.lt_of_lt_of_le h1 hb.size
  have e2 : B2 < W.heap.size := Nat.lt_of_lt_of_le h2 hb.size
  have hu := Try.underlying28
  show Calls Try.prog 24 #[.agg #[.string f0, .int .i64 f1, .int .i64 f2, .int .i64 f3, .int .i64 f4, .bool f5, v], .pointer (some ⟨B1, 0, none⟩), .pointer (some ⟨B2, 0, none⟩)] W _
  go_enter Try.func24, Try.ntmps24
  go_wp2
  all_goals (go_ret; exact ⟨by (try simp_all [predF]) <;> first | done | rfl, hb.alloc hb.size _⟩)

theorem idxF_empty (a : Option Addr) (c : Nat) (fv : Value) (w : World) :
    Calls Try.prog 23 #[.slice a 0 c, fv] w fun e w' => e = .returned (.int .i64 (-1)) ∧ w' = w := by
  go_enter Try.func23, Try.ntmps23
  go_wp2
  go_loopg [5, 8] 0 (fun _ _ s8 wr => s8 = .int .i64 0 ∧ wr = w)
  case atStart => exact ⟨rfl, rfl⟩
  case round =>
    obtain ⟨rfl, rfl⟩ := hrel
    go_wp2
    go_ret
    exact ⟨rfl, rfl⟩
/-- The place of the first file of a path and a version, below 0: there is none. -/
def idxF (path : ByteArray) (ver : Int) : List S28 → Int → Int
  | [], _ => -1
  | x :: r, i => if predF path ver x then i else idxF path ver r (i + 1)
theorem idxBy_F (path : ByteArray) (ver : Int) : ∀ (zs : List (S28 × Value)) (i : Nat), Lib.idxByFrom (fun _ y => predF path ver y.1) (default : S28 × Value) zs i = idxF path ver (zs.map (·.1)) i
  | [], _ => rfl
  | z :: zs, i => by
    simp only [Lib.idxByFrom, idxF, List.map_cons]
    split
    · rfl
    · rw [idxBy_F path ver zs (i + 1)]; congr 1
theorem call_idxF (path : ByteArray) (ver : Int) (B1 B2 : Nat) (A : Option Addr) (c : Nat) (l : List S28) (w : World) (h1 : B1 < w.heap.size) (h2 : B2 < w.heap.size) (c1 : w.cell? ⟨B1, 0, none⟩ = some (.string path)) (c2 : w.cell? ⟨B2, 0, none⟩ = some (.int .i64 ver)) (hC : Kd.C k28 w A l.length l) :
    Calls Try.prog 23 #[.slice A l.length c, .func (.func 24) #[] #[.pointer (some ⟨B1, 0, none⟩), .pointer (some ⟨B2, 0, none⟩)]] w fun e w' => e = .returned (.int .i64 (idxF path ver l 0)) ∧ Below w.heap.size w w' := by
  rcases Nat.eq_zero_or_pos l.length with h0 | h0
  · have hl := List.eq_nil_of_length_eq_zero h0
    subst hl
    refine (idxF_empty A c _ w).mono ?_
    rintro e w' ⟨rfl, rfl⟩
    exact ⟨rfl, Below.refl _ _⟩
  · obtain ⟨ad, hA, _⟩ := hC.2.2 h0
    subst hA
    have hsp : ad.spot = none := by
      obtain ⟨ad', A6, c6, e1, x0, _⟩ := at_T28 hC 0 (by omega) (by omega)
      cases e1
      have hs := World.cell?_spot x0
      rwa [show (0 : Int).toNat * 7 = 0 from rfl, Addr.add_zero'] at hs
    obtain ⟨b, o, sx⟩ := ad
    have hs' : sx = none := hsp
    subst hs'
    clear hsp
    have hcell : ∀ j : Nat, ∃ v : Value, j < l.length → ∀ i u, (encF (rd_T28 l j, v))[i]? = some u → w.cell? ⟨b, o + j * 7 + i, none⟩ = some u := by
      intro j
      by_cases hj : j < l.length
      · obtain ⟨ad', A6, c6, e1, x0, x1, x2, x3, x4, x5, x6, _⟩ := at_T28 hC j (by omega) (by omega)
        cases e1
        refine ⟨.slice A6 (rd_T28 l j).f6.length c6, fun _ i u hu => ?_⟩
        simp only [Int.toNat_natCast, Addr.add_lit] at x0 x1 x2 x3 x4 x5 x6
        match i, hu with
        | 0, hu => cases hu; exact x0
        | 1, hu => cases hu; exact x1
        | 2, hu => cases hu; exact x2
        | 3, hu => cases hu; exact x3
        | 4, hu => cases hu; exact x4
        | 5, hu => cases hu; exact x5
        | 6, hu => cases hu; exact x6
        | i + 7, hu => simp [encF] at hu
      · exact ⟨.slice none 0 0, fun h => absurd h hj⟩
    obtain ⟨vv, hvv⟩ := Classical.axiomOfChoice hcell
    have hblk : b < w.heap.size := by
      have x0 := hvv 0 h0 0 _ rfl
      rcases Nat.lt_or_ge b w.heap.size with h | h
      · exact h
      · have : w.heap[b]? = none := Array.getElem?_eq_none h
        simp only [World.cell?, this] at x0
        cases x0
    have eg : ∀ args w, (callFunc 24 args).run Try.prog w = .ok (.enter 24 args) w := enters_of Try.func24 (by kernel_rfl) rfl
    let zs : List (S28 × Value) := (List.range l.length).map (fun (j : Nat) => (rd_T28 l (j : Int), vv j))
    have hzl : zs.length = l.length := by simp [zs]
    have hz1 : zs.map (·.1) = l := by
      apply List.ext_getElem
      · simp [zs]
      · intro n h1 h2
        simp [zs, rd_T28, List.getElem?_eq_getElem h2]
    have hcon := AnyQ.slices_IndexFunc lays6 7 Try.isAgg28 Try.sizeOf28 encF (fun _ => rfl) (fun x => predF path ver x.1) 24 #[.pointer (some ⟨B1, 0, none⟩), .pointer (some ⟨B2, 0, none⟩)] eg b o l.length c zs w
      (pred_get path ver B1 B2 w h1 h2 c1 c2) (by omega) hC.2.1 hblk (fun j hj i v hi => by
        have hj' : j < l.length := by omega
        have : zs[j]! = (rd_T28 l j, vv j) := by
          rw [getElem!_pos zs j hj]
          simp [zs]
        rw [this] at hi
        exact hvv j hj' i v hi)
    refine Calls.mono hcon ?_
    rintro e w' ⟨rfl, hb⟩
    refine ⟨?_, hb⟩
    rw [List.take_of_length_le (by omega)]
    rw [Lib.idxBy, idxBy_F, hz1]
    rfl

end Go.Proofs.Ytjmbedbapoofdaa.P
