/- The reference's Names: a sorted list, filled one by one. -/
import Derived.Test.YtjmbedbapoofdaaPx0
import Derived.Test.YtjmbedbapoofdaaPx2
import Derived.Test.YtjmbedbapoofdaaMGet
import Derived.Test.YtjmbedbapoofdaaMListNamesWalk
import Derived.Test.YtjmbedbapoofdaaMListPure
import Derived.Test.YtjmbedbapoofdaaMRefListPure
import Derived.Lib.Hide
import Derived.Laws.Cover1
import Derived.Outline
namespace Go.Proofs.Ytjmbedbapoofdaa.P
open Go.RowKit Go.Proofs.YtjmbedbapoofdaaW.PrintWords Go.Proofs.YtjmbedbapoofdaaW.PrintLast Go.Proofs.YtjmbedbapoofdaaW.PrintMore
set_option linter.unusedVariables false
set_option linter.unusedSimpArgs false

def kk (p : ByteArray) : List ByteArray → Nat
  | [] => 0
  | q :: o => if Op.bytesLess q.toList p.toList = true then kk p o + 1 else 0
theorem kk_le (p : ByteArray) : ∀ o, kk p o ≤ o.length
  | [] => Nat.le_refl _
  | q :: o => by
    unfold kk
    have := kk_le p o
    split <;> simp only [List.length_cons] <;> omega
theorem kk_less (p : ByteArray) : ∀ (o : List ByteArray) (j : Nat) (h : j < kk p o) (hj : j < o.length), Op.bytesLess (o[j]).toList p.toList = true
  | q :: o, j, h, hj => by
    unfold kk at h
    split at h
    · next hq =>
      cases j with
      | zero => exact hq
      | succ j => simpa using kk_less p o j (by omega) (by simpa using hj)
    · omega
theorem kk_stop (p : ByteArray) : ∀ (o : List ByteArray) (h : kk p o < o.length), Op.bytesLess (o[kk p o]).toList p.toList = false
  | q :: o, h => by
    by_cases hq : Op.bytesLess q.toList p.toList = true
    · have e : kk p (q :: o) = kk p o + 1 := by simp [kk, hq]
      have h' : kk p o < o.length := by rw [e] at h; simpa using h
      simp only [e, List.getElem_cons_succ]
      exact kk_stop p o h'
    · have e : kk p (q :: o) = 0 := by simp [kk, hq]
      simp only [e, List.getElem_cons_zero]
      simpa using hq
def eqAt (p : ByteArray) (o : List ByteArray) : Bool := match o[kk p o]? with | some q => q.toList == p.toList | none => false
def insB (p : ByteArray) (o : List ByteArray) : List ByteArray := if eqAt p o = true then o else o.take (kk p o) ++ [p] ++ o.drop (kk p o)
theorem insB_len (p : ByteArray) (o : List ByteArray) : (insB p o).length ≤ o.length + 1 := by
  have := kk_le p o
  unfold insB
  split
  · omega
  · simp only [List.length_append, List.length_take, List.length_drop, List.length_cons, List.length_nil]; omega
def rnStep (l : List File) (o : List ByteArray) (x : File) : List ByteArray := if (NewestS l x.f0).2 = true then insB x.f0 o else o
def stN (l : List File) (i : Nat) : List ByteArray := (l.take i).foldl (rnStep l) []
theorem stN_succ (l : List File) (i : Nat) (h : i < l.length) : stN l (i + 1) = rnStep l (stN l i) l[i] := by
  unfold stN
  rw [List.take_succ_eq_append_getElem h, List.foldl_append]
  rfl
theorem stN_len (l : List File) : ∀ i, (stN l i).length ≤ i
  | 0 => by simp [stN]
  | i + 1 => by
    have ih := stN_len l i
    rcases Nat.lt_or_ge i l.length with h | h
    · rw [stN_succ l i h]
      unfold rnStep
      split
      · have := insB_len l[i].f0 (stN l i); omega
      · omega
    · have : stN l (i + 1) = stN l i := by unfold stN; rw [List.take_of_length_le h, List.take_of_length_le (by omega)]
      rw [this]; omega
def cartridgeref10_Names.f (k : Nat) (l0 : List File) : Option (List ByteArray) := if l0.length ≤ 100000 then some (stN l0 l0.length) else none
theorem cartridgeref10_Names.mono : ∀ a0 k, LeO (cartridgeref10_Names.f k a0) (cartridgeref10_Names.f (k + 1) a0) := fun _ _ => LeO.refl _
theorem heapFile : Kd.Heap k28 := k28_heap
theorem at_world {P : Program} {c : Code} {Q : Exit → Act → World → Prop} {a : Act} {W0 : World} {F : World → Prop} (h0 : F W0) (h : ∀ W, F W → Code.wp P c Q a W) : Code.wp P c Q a W0 := h W0 h0
theorem fresh2 {v1 u : Value} {H : Nat} (hat : v1.ownBlock = u.ownBlock ∨ ∃ b, v1.ownBlock = some b ∧ H ≤ b) (hu : u.ownBlock = none) : ∀ k, k < H → some k ≠ v1.ownBlock := fun k hk e => by
  rcases hat with h | ⟨b, h, hb⟩
  · rw [h, hu] at e; cases e
  · rw [h] at e; cases e; omega
theorem fresh1 {v1 : Value} {W : World} {u : Value} (hat : v1.ownBlock = u.ownBlock ∨ ∃ b, v1.ownBlock = some b ∧ W.heap.size ≤ b) (hu : u.ownBlock = none) {x : Value} (hx : ∀ k, x.ownBlock = some k → k < W.heap.size) : v1.ownBlock = x.ownBlock → x.ownBlock = none := by
  intro e
  rcases hat with h | ⟨b, h, hb⟩
  · rw [← e, h, hu]
  · have := hx b (by rw [← e, h]); omega
def rn.T10 : Bool × List (List Nat × List Nat) := (true, [([], []), ([], []), ([0, 1], [0, 1]), ([2], [2]), ([], []), ([], []), ([4, 5], [4, 5]), ([6], [6]), ([7], [7]), ([8], [8]), ([3, 9, 3], [3, 9]), ([], []), ([], []), ([11, 12], [11, 12]), ([10, 13, 10], [10, 13]), ([14, 14, 0, 1, 2, 3, 4, 5, 6, 7, 8, 9, 10, 11, 12, 13, 14], [0, 11, 14])])
def rn.B10 : List Nat := [0, 0, 3, 7, 0, 0, 48, 112, 240, 496, 1023, 0, 0, 6144, 16383, 32767]
theorem rn.tab10 : rtab .any (opsOf Try.f18 10) = rn.T10 := by kernel_rfl
theorem rn.bits10 : waitsOk rn.T10.2 rn.B10 = true := by kernel_rfl
set_option maxHeartbeats 8000000 in
set_option maxRecDepth 100000 in
theorem cartridgeref10_Names.calls (k : Nat) (A0 : Option Addr) (c0 : Nat) (l0 : List S28) (r : List ByteArray) (w : World) (hr0 : Kd.C k28 w A0 l0.length l0) (hc0 : l0.length ≤ c0) (h : cartridgeref10_Names.f k l0 = some r) :
    Calls Try.prog 18 #[.slice A0 l0.length c0] w fun e w' => ∃ v0_ : Value, e = .returned (v0_) ∧ Kd.R Kd.string 9 w' w.heap.size (fun _ => True) v0_ r ∧ Below w.heap.size w w' := by
  unfold cartridgeref10_Names.f at h
  by_cases hl : l0.length ≤ 100000
  · rw [if_pos hl] at h
    obtain rfl := Option.some.inj h
    clear h
    have hu := Try.underlying28
    have hN := fun (W : World) (p : ByteArray) (t0 : ByteArray) (t1 t2 t3 t4 : Int) (t5 : Bool) (t6 : List S47) (tb : Bool) (hB : Below w.heap.size w W) (ht : cartridgeref10_Newest.f (l0.length + 1) l0 p = some (t0, t1, t2, t3, t4, t5, t6, tb)) => cartridgeref10_Newest.calls (l0.length + 1) (fun k_ => k_ < w.heap.size) A0 c0 l0 p t0 t1 t2 t3 t4 t5 t6 tb W (Kd.V_mk hc0 (Kd.F_below (Kd.C_F heapFile hr0) hB)) ht
    have HNN := Aside0.mk hN
    obtain ⟨i9, hi9, hz9⟩ := Option.map_eq_some_iff.1 info9
    have hz9 : i9.size = 1 := (Prod.mk.inj (Prod.mk.inj hz9).2).1
    have HI9 := Aside0.mk hi9
    have HZ9 := Aside0.mk hz9
    clear hi9 hz9
    have HR0 := Aside0.mk hr0
    clear hr0 hc0 hN
    go_enter Try.func18, Try.ntmps18
    go_wp2
    go_loopg [3, 4] l0.length (fun gg s3 s4 wr => ∃ i : Nat, i ≤ l0.length ∧ l0.length - i ≤ gg ∧ s4 = .int .i64 i ∧ Aside0 (Kd.R Kd.string 9 wr w.heap.size (fun _ => True) s3 (stN l0 i)) ∧ Aside0 (Below w.heap.size w wr))
    case atStart => exact ⟨0, by omega, by omega, rfl, ⟨Kd.R_nil _ _ _ _ _⟩, ⟨Below.refl _ _⟩⟩
    case round =>
      obtain ⟨i, hi, hg, rfl, HO, HB⟩ := hrel
      have hlen := stN_len l0 i
      by_cases hlt : i < l0.length
      · have hz : decide ((i : Int) < (l0.length : Int)) = true := decide_eq_true (by omega)
        have hst := stN_succ l0 i hlt
        obtain ⟨o, ho⟩ : ∃ o, stN l0 i = o := ⟨_, rfl⟩
        obtain ⟨o', ho'⟩ : ∃ o, stN l0 (i + 1) = o := ⟨_, rfl⟩
        rw [ho] at HO hlen hst
        rw [ho'] at hst
        obtain ⟨p, hp⟩ : ∃ p, (l0[i]).f0 = p := ⟨_, rfl⟩
        obtain ⟨Ao, co, eo⟩ := Kd.R_slice HO.out
        subst eo
        obtain ⟨⟨⟨t0, t1, t2, t3, t4, t5, t6⟩, tb⟩, ht⟩ : ∃ t, NewestS l0 p = t := ⟨_, rfl⟩
        have hE : cartridgeref10_Newest.f (l0.length + 1) l0 p = some (t0, t1, t2, t3, t4, t5, t6, tb) := by rw [refNewest_eq _ l0 p (by omega) (by omega), ht]; rfl
        have hL := fun W (hC : Kd.C k28 W A0 l0.length l0) => at_T28 hC (i : Int) (by omega) (by omega)
        have hrd : rd_T28 l0 (i : Int) = l0[i] := rd_file l0 i hlt
        obtain ⟨ad, A6, c6, eA, x0, _⟩ := hL wr (Kd.C_below HR0.out HB.out)
        rw [hrd, hp, Int.toNat_natCast] at x0
        subst eA
        have hst2 : o' = if tb = true then insB p o else o := by rw [hst]; unfold rnStep; rw [hp, ht]
        have q0 : (0 ≤ (i : Int)) = True := eq_true (by omega)
        have q1 : ((i : Int) < (l0.length : Int)) = True := eq_true (by omega)
        have HST := Aside0.mk hst2
        have HO' := Aside0.mk ho'
        have HRD := Aside0.mk hrd
        have HP := Aside0.mk hp
        have HL := Aside0.mk hL
        have HE := Aside0.mk hE
        clear ht hE hrd hp hL hst hst2 ho ho'
        go_wp2_with (first
          | (go_at_call 9; refine (HNN.out _ p t0 t1 t2 t3 t4 t5 t6 tb HB.out HE.out).mono ?_; rintro e w3 ⟨v, rfl, hv, hb⟩; have HO3 := Aside0.mk (Kd.R_below HO.out hb); have HB3 := Aside0.mk (HB.out.trans (hb.mono HB.out.size)); obtain ⟨Av, cv, ev⟩ := Kd.V_slice hv; subst ev; clear hv hb HO HE)
          | ((with_reducible refine gate_dst (N := 5) rfl ?_); refine box_event ?hg (N := 5) ?hd (cs := #[.string (⟨#[]⟩ : ByteArray), .int .i64 0, .int .i64 0, .int .i64 0, .int .i64 0, .bool false, .slice none 0 0]) (t := 28) ?hr ?_; (case hd => rfl); (case hg => rfl); (case hr => first | (go_simp; done) | (go_simp; rfl)); intro g6 hg6 w6 hbox hb; have HO6 := Aside0.mk (Kd.R_below HO3.out hb); have HB6 := Aside0.mk (HB3.out.trans (hb.mono HB3.out.size)); have G6 := Aside0.mk (show w.heap.size ≤ g6 by rw [hg6]; exact HB3.out.size); have NE := Aside0.mk (show some g6 ≠ (Value.slice Ao o.length co).ownBlock by rw [hg6]; exact fun e => Nat.lt_irrefl _ (Kd.R_lt HO3.out _ e.symm)); obtain ⟨⟨d0, d1, d2, d3, d4, d5, d6⟩, hf⟩ := cells_file hbox; have hf0 := hf 0; have hf1 := hf 1; have hf2 := hf 2; have hf3 := hf 3; have hf4 := hf 4; have hf5 := hf 5; have hf6 := hf 6; clear hf hbox hb hg6 x0))
        have HO9 := Aside0.mk (show Kd.R Kd.string 9 (((((((w6.setCell ⟨g6, 0, none⟩ (.string t0)).setCell ⟨g6, 1, none⟩ (.int .i64 t1)).setCell ⟨g6, 2, none⟩ (.int .i64 t2)).setCell ⟨g6, 3, none⟩ (.int .i64 t3)).setCell ⟨g6, 4, none⟩ (.int .i64 t4)).setCell ⟨g6, 5, none⟩ (.bool t5)).setCell ⟨g6, 6, none⟩ (.slice Av t6.length cv)) w.heap.size (fun _ => True) (.slice Ao o.length co) o from R_put7 HO6.out NE.out _ _ _ _ _ _ _)
        have HB9 := Aside0.mk (show Below w.heap.size w (((((((w6.setCell ⟨g6, 0, none⟩ (.string t0)).setCell ⟨g6, 1, none⟩ (.int .i64 t1)).setCell ⟨g6, 2, none⟩ (.int .i64 t2)).setCell ⟨g6, 3, none⟩ (.int .i64 t3)).setCell ⟨g6, 4, none⟩ (.int .i64 t4)).setCell ⟨g6, 5, none⟩ (.bool t5)).setCell ⟨g6, 6, none⟩ (.slice Av t6.length cv)) by repeat (first | (with_reducible first | exact HB6.out | refine below_set ?_ G6.out) | exact HB6.out))
        generalize (((((((w6.setCell ⟨g6, 0, none⟩ (.string t0)).setCell ⟨g6, 1, none⟩ (.int .i64 t1)).setCell ⟨g6, 2, none⟩ (.int .i64 t2)).setCell ⟨g6, 3, none⟩ (.int .i64 t3)).setCell ⟨g6, 4, none⟩ (.int .i64 t4)).setCell ⟨g6, 5, none⟩ (.bool t5)).setCell ⟨g6, 6, none⟩ (.slice Av t6.length cv)) = W9 at HO9 HB9 ⊢
        clear HO6 HB6 HO3 HB3 d0 d1 d2 d3 d4 d5 d6 hf0 hf1 hf2 hf3 hf4 hf5 hf6 G6 NE
        have hkle := kk_le p o
        have hkless := Aside0.mk (kk_less p o)
        have hkstop := Aside0.mk (kk_stop p o)
        have hins := Aside0.mk (show insB p o = if eqAt p o = true then o else o.take (kk p o) ++ [p] ++ o.drop (kk p o) from rfl)
        have heqa := Aside0.mk (show eqAt p o = match o[kk p o]? with | some q => q.toList == p.toList | none => false from rfl)
        generalize kk p o = kp at hkle hkless hkstop hins heqa
        go_loopg [7] kp (fun gg s7 wr => ∃ q : Nat, q ≤ kp ∧ kp - q ≤ gg ∧ s7 = .int .i64 q ∧ Aside0 (Kd.R Kd.string 9 wr w.heap.size (fun _ => True) (.slice Ao o.length co) o) ∧ Aside0 (Below w.heap.size w wr))
        case atStart => exact ⟨0, by omega, by omega, rfl, ⟨HO9.out⟩, ⟨HB9.out⟩⟩
        case round =>
          clear HO9 HB9
          obtain ⟨q, hq, hgq, rfl, HO, HB⟩ := hrel
          obtain ⟨ad', A6', c6', eA', y0, _⟩ := HL.out _ (Kd.C_below HR0.out HB.out)
          cases eA'
          rw [HRD.out, HP.out, Int.toNat_natCast] at y0
          by_cases hqk : q < kp
          · have hz2 : decide ((q : Int) < (o.length : Int)) = true := decide_eq_true (by omega)
            obtain ⟨adn, cc, ea⟩ := Kd.R_slice1 HO.out (by omega)
            injection ea with ea _ ec
            subst ea ec
            obtain ⟨gn, rfl⟩ := Kd.R_head HO.out
            have xi := (Kd.R_cell ByteArray.empty HO.out (q : Int) (by omega) (by omega)).1
            rw [Int.toNat_natCast, rdOf_get _ q (by omega)] at xi
            have hls := hkless.out q hqk (by omega)
            obtain ⟨x, hx⟩ : ∃ x, o[q] = x := ⟨_, rfl⟩
            rw [hx] at xi hls
            have q0k : (0 ≤ (q : Int)) = True := eq_true (by omega)
            have q1k : ((q : Int) < (o.length : Int)) = True := eq_true (by omega)
            clear hx
            go_wp2
            go_quiet (fail)
            go_wp2
            go_roundg (kp - (q + 1))
            case measure => omega
            case rel => exact ⟨q + 1, by omega, by omega, by go_num, ⟨by (with_reducible repeat (first | apply Kd.R_alloc | apply Kd.R_drewN | apply Kd.R_drew)); exact HO.out⟩, ⟨by repeat (first | (with_reducible first | exact HB.out | apply below_alloc | apply pw_below_drewN | apply below_drew1) | exact HB.out)⟩⟩
          · obtain rfl : q = kp := by omega
            clear hgq hqk hkless
            by_cases hqo : q < o.length
            · have hz2 : decide ((q : Int) < (o.length : Int)) = true := decide_eq_true (by omega)
              obtain ⟨adn, cc, ea⟩ := Kd.R_slice1 HO.out (by omega)
              injection ea with ea _ ec
              subst ea ec
              obtain ⟨gn, rfl⟩ := Kd.R_head HO.out
              have xi := (Kd.R_cell ByteArray.empty HO.out (q : Int) (by omega) (by omega)).1
              rw [Int.toNat_natCast, rdOf_get _ q (by omega)] at xi
              have hls := hkstop.out hqo
              have heq := heqa.out
              rw [List.getElem?_eq_getElem hqo] at heq
              obtain ⟨x, hx⟩ : ∃ x, o[q] = x := ⟨_, rfl⟩
              rw [hx] at xi hls heq
              have heq : eqAt p o = (x.toList == p.toList) := heq
              have q0k : (0 ≤ (q : Int)) = True := eq_true (by omega)
              have q1k : ((q : Int) < (o.length : Int)) = True := eq_true (by omega)
              clear hx hkstop heqa
              cases tb with
              | false =>
                clear heq hins
                go_wp2
                go_quiet (fail)
                go_wp2
                go_quiet (fail)
                go_wp2
                go_roundg (l0.length - (i + 1))
                case measure => omega
                case rel => exact ⟨i + 1, by omega, by omega, by go_num, ⟨by rw [HO'.out, HST.out]; (first | rw [if_neg (by simp)] | skip); (with_reducible repeat (first | apply Kd.R_alloc | apply Kd.R_drewN | apply Kd.R_drew)); exact HO.out⟩, ⟨by repeat (first | (with_reducible first | exact HB.out | apply below_alloc | apply pw_below_drewN | apply below_drew1) | exact HB.out)⟩⟩
              | true =>
                obtain ⟨b, hb⟩ : ∃ b, (x.toList == p.toList) = b := ⟨_, rfl⟩
                rw [hb] at heq
                have HINS := Aside0.mk (show o' = if b = true then o else o.take q ++ [p] ++ o.drop q by rw [HST.out, if_pos rfl, hins.out, heq])
                clear heq hins HST
                cases b with
                | true =>
                  go_wp2
                  go_quiet (fail)
                  go_wp2
                  go_quiet (fail)
                  go_wp2
                  go_roundg (l0.length - (i + 1))
                  case measure => omega
                  case rel => exact ⟨i + 1, by omega, by omega, by go_num, ⟨by rw [HO'.out, HINS.out]; (first | rw [if_pos rfl] | rw [if_pos trivial]); (with_reducible repeat (first | apply Kd.R_alloc | apply Kd.R_drewN | apply Kd.R_drew)); exact HO.out⟩, ⟨by repeat (first | (with_reducible first | exact HB.out | apply below_alloc | apply pw_below_drewN | apply below_drew1) | exact HB.out)⟩⟩
                | false =>
                  go_wp2
                  go_quiet (fail)
                  go_wp2
                  go_quiet (fail)
                  go_wp2
                  have hct : ∀ W : World, (Instr.slice 24 (.slice _ o.length co) none (some (.int .i64 (q : Int))) none).run Try.prog W = .ok (.slice _ q co) W := fun W => by have := cut_to (P := Try.prog) 24 9 .i64 Try.underlying24 HI9.out (some ⟨gn, 0, none⟩ : Option Addr) o.length co (q : Int) (by omega) (by omega) (Kd.R_reads' HO.out).2.1 W; rw [Int.toNat_natCast] at this; exact this
                  have hcf0 : ∀ W : World, (Instr.slice 24 (.slice _ o.length co) (some (.int .i64 (q : Int))) none none).run Try.prog W = .ok (.slice _ (o.length - q) (co - q)) W := fun W => by have := cut_from (P := Try.prog) 24 9 .i64 Try.underlying24 HI9.out 1 HZ9.out (some ⟨gn, 0, none⟩ : Option Addr) o.length co (q : Int) (by omega) (by omega) W; rw [Int.toNat_natCast] at this; exact this
                  have hdr0 := fun (W : World) (h : Kd.C Kd.string W (some ⟨gn, 0, none⟩ : Option Addr) o.length o) => Kd.C_drop (m := q) h (by omega) (Kd.R_reads' HO.out).2.1
                  obtain ⟨Ad, hAd⟩ : ∃ Ad, (if co = q then (some ⟨gn, 0, none⟩ : Option Addr) else (some ⟨gn, 0, none⟩ : Option Addr).map (·.add (q * 1))) = Ad := ⟨_, rfl⟩
                  have hcf : ∀ W : World, (Instr.slice 24 (.slice (some ⟨gn, 0, none⟩ : Option Addr) o.length co) (some (.int .i64 (q : Int))) none none).run Try.prog W = .ok (.slice Ad (o.length - q) (co - q)) W := fun W => by rw [← hAd]; exact hcf0 W
                  have hdr := Aside0.mk (show ∀ W : World, Kd.C Kd.string W (some ⟨gn, 0, none⟩ : Option Addr) o.length o → Kd.C Kd.string W Ad (o.length - q) (o.drop q) from fun W h => by have := hdr0 W h; rw [List.length_drop] at this; rw [← hAd]; exact this)
                  have htk := Aside0.mk (show ∀ W : World, Kd.C Kd.string W (some ⟨gn, 0, none⟩ : Option Addr) o.length o → Kd.C Kd.string W (some ⟨gn, 0, none⟩ : Option Addr) q (o.take q) from fun W h => by have := Kd.C_take (m := q) h (by omega); rwa [List.length_take_of_le (by omega)] at this)
                  clear hcf0 hdr0 hAd
                  refine at_world (F := fun W => (Kd.R Kd.string 9 W w.heap.size (fun _ => True) (.slice (some ⟨gn, 0, none⟩ : Option Addr) o.length co) o ∧ Below w.heap.size w W) ∧ W.cell? (ad.add (i * 7)) = some (.string p)) ⟨⟨by (with_reducible repeat (first | apply Kd.R_alloc | apply Kd.R_drewN | apply Kd.R_drew)); exact HO.out, by repeat (first | (with_reducible first | exact HB.out | apply below_alloc | apply pw_below_drewN | apply below_drew1) | exact HB.out)⟩, by go_simp⟩ ?_
                  clear HO HB y0
                  rintro W10 ⟨⟨hO, hB⟩, y0⟩
                  have HO := Aside0.mk (Kd.R_mono (Kd.R_bound (Kd.R_drew hO)) (ok' := fun k => k < W10.drew.heap.size) (fun _ hk => hk.2.2.1)); have HB := Aside0.mk (below_drew1 hB); clear hO hB
                  refine start_ (n := 16) (S := fun w' => w'.cell? (ad.add (i * 7)) = some (.string p)) (ds := []) #[false, false, false, false, false, false, false, false, false, false, false, false, false, false, false, false] (by kernel_rfl) rfl rfl (by go_simp) (fun hHeld => ?_); refine with_tabW rn.tab10 rn.bits10 (fun HT_ HW_ => ?_)
                  clear y0
                  generalize W10.drew = W at HO HB hHeld ⊢
                  refine pure_ (i := 0) (N := some 62) (v := ?_) (a' := ?_) #[true, false, false, false, false, false, false, false, false, false, false, false, false, false, false, false] rfl rfl (any_of HT_.out (by kernel_rfl)) (fun _ _ _ h => h) (Or.inl ⟨by rfl, ?_⟩) ?_ ?_
                  rotate_left
                  · intro w'
                    go_simp
                    with_reducible rfl
                  rotate_left
                  · simp only [Act.put, List.setIfInBounds_toArray, List.set_cons_zero, List.set_cons_succ, i64_w, i32_w]
                    rfl
                  refine pure_ (i := 1) (N := some 63) (v := ?_) (a' := ?_) #[true, true, false, false, false, false, false, false, false, false, false, false, false, false, false, false] rfl rfl (any_of HT_.out (by kernel_rfl)) (fun _ _ _ h => h) (Or.inl ⟨by rfl, ?_⟩) ?_ ?_
                  rotate_left
                  · intro w'
                    go_simp
                    with_reducible rfl
                  rotate_left
                  · simp only [Act.put, List.setIfInBounds_toArray, List.set_cons_zero, List.set_cons_succ, i64_w, i32_w]
                    rfl
                  refine pure_ (i := 2) (N := some 64) (v := ?_) (a' := ?_) #[true, true, true, false, false, false, false, false, false, false, false, false, false, false, false, false] rfl rfl (any_of HT_.out (by kernel_rfl)) (fun _ _ _ h => h) (Or.inl ⟨by rfl, ?_⟩) ?_ ?_
                  rotate_left
                  · intro w'
                    go_simp
                    with_reducible rfl
                  rotate_left
                  · simp only [Act.put, List.setIfInBounds_toArray, List.set_cons_zero, List.set_cons_succ, i64_w, i32_w]
                    rfl
                  refine pure_ (i := 4) (N := some 66) (v := ?_) (a' := ?_) #[true, true, true, false, true, false, false, false, false, false, false, false, false, false, false, false] rfl rfl (any_of HT_.out (by kernel_rfl)) (fun _ _ _ h => h) (Or.inl ⟨by rfl, ?_⟩) ?_ ?_
                  rotate_left
                  · intro w'
                    go_simp
                    with_reducible rfl
                  rotate_left
                  · simp only [Act.put, List.setIfInBounds_toArray, List.set_cons_zero, List.set_cons_succ, i64_w, i32_w]
                    rfl
                  refine pure_ (i := 5) (N := some 67) (v := ?_) (a' := ?_) #[true, true, true, false, true, true, false, false, false, false, false, false, false, false, false, false] rfl rfl (any_of HT_.out (by kernel_rfl)) (fun _ _ _ h => h) (Or.inl ⟨by rfl, ?_⟩) ?_ ?_
                  rotate_left
                  · intro w'
                    go_simp
                    with_reducible rfl
                  rotate_left
                  · simp only [Act.put, List.setIfInBounds_toArray, List.set_cons_zero, List.set_cons_succ, i64_w, i32_w]
                    rfl
                  refine pure_ (i := 6) (N := some 68) (v := ?_) (a' := ?_) #[true, true, true, false, true, true, true, false, false, false, false, false, false, false, false, false] rfl rfl (any_of HT_.out (by kernel_rfl)) (fun _ _ _ h => h) (Or.inl ⟨by rfl, ?_⟩) ?_ ?_
                  rotate_left
                  · intro w'
                    go_simp
                    with_reducible rfl
                  rotate_left
                  · simp only [Act.put, List.setIfInBounds_toArray, List.set_cons_zero, List.set_cons_succ, i64_w, i32_w]
                    rfl
                  refine pure_ (i := 7) (N := some 69) (v := ?_) (a' := ?_) #[true, true, true, false, true, true, true, true, false, false, false, false, false, false, false, false] rfl rfl (any_of HT_.out (by kernel_rfl)) (fun _ _ _ h => h) (Or.inl ⟨by rfl, ?_⟩) ?_ ?_
                  rotate_left
                  · intro w'
                    go_simp
                    with_reducible rfl
                  rotate_left
                  · simp only [Act.put, List.setIfInBounds_toArray, List.set_cons_zero, List.set_cons_succ, i64_w, i32_w]
                    rfl
                  refine pure_ (i := 11) (N := some 73) (v := ?_) (a' := ?_) #[true, true, true, false, true, true, true, true, false, false, false, true, false, false, false, false] rfl rfl (any_of HT_.out (by kernel_rfl)) (fun _ _ _ h => h) (Or.inl ⟨by rfl, ?_⟩) ?_ ?_
                  rotate_left
                  · intro w'
                    go_simp
                    with_reducible rfl
                  rotate_left
                  · simp only [Act.put, List.setIfInBounds_toArray, List.set_cons_zero, List.set_cons_succ, i64_w, i32_w]
                    rfl
                  refine pure_ (i := 12) (N := some 74) (v := ?_) (a' := ?_) #[true, true, true, false, true, true, true, true, false, false, false, true, true, false, false, false] rfl rfl (any_of HT_.out (by kernel_rfl)) (fun _ _ _ h => h) (Or.inl ⟨by rfl, ?_⟩) ?_ ?_
                  rotate_left
                  · intro w'
                    go_simp
                    with_reducible rfl
                  rotate_left
                  · simp only [Act.put, List.setIfInBounds_toArray, List.set_cons_zero, List.set_cons_succ, i64_w, i32_w]
                    rfl
                  refine pure_ (i := 13) (N := some 75) (v := ?_) (a' := ?_) #[true, true, true, false, true, true, true, true, false, false, false, true, true, true, false, false] rfl rfl (any_of HT_.out (by kernel_rfl)) (fun _ _ _ h => h) (Or.inl ⟨by rfl, ?_⟩) ?_ ?_
                  rotate_left
                  · intro w'
                    go_simp
                    with_reducible rfl
                  rotate_left
                  · simp only [Act.put, List.setIfInBounds_toArray, List.set_cons_zero, List.set_cons_succ, i64_w, i32_w]
                    rfl
                  refine take_ (i := 8) (N := some 70) (v := ?_) (a' := ?_) #[true, true, true, false, true, true, true, true, true, false, false, true, true, true, false, false] rfl rfl (take_ofW HT_.out HW_.out (by kernel_rfl)) (fun _ _ _ h => h) (Or.inl ⟨by rfl, ?_⟩) hHeld ?_ ?_
                  rotate_left
                  · rintro w' s0
                    go_simp
                    with_reducible rfl
                  rotate_left
                  · simp only [Act.put, List.setIfInBounds_toArray, List.set_cons_zero, List.set_cons_succ, i64_w, i32_w]
                    rfl
                  refine two_ (i := 3) (j := 9) (Ni := some 65) (Nj := some 71) #[true, true, true, true, true, true, true, true, true, false, false, true, true, true, false, false] #[true, true, true, false, true, true, true, true, true, true, false, true, true, true, false, false] rfl rfl rfl rfl (two_of HT_.out (by kernel_rfl)) (by decide) (by decide) (fun K hK => ?_) (fun K hK => ?_)
                  · refine Kd.R_append_rows_step Kd.string (w0 := w) w.heap.size rfl (.const (.slice none 0 0)) (.tmp 64) 24 9 (.string ⟨#[]⟩) 16 rfl Try.underlying24 info9 rfl (by decide) (by omega) (.slice none 0 0) ([] : List ByteArray) (o.take q) _ _ _ (fun _ => True) (fun _ => False) rfl rfl (Kd.R_nil _ _ _ _ (fun _ => True)) ?aR (fun _ _ h => h) (fun _ h => h.elim) (fun _ _ => trivial) HB.out (below_size HB.out) ?aL ?_
                    (case aR => exact (htk.out _ (Kd.R_reads' HO.out).2.2))
                    (case aL => simp only [List.length_nil]; omega)
                    intro v1 W1 ho hb hg hat
                    rw [List.nil_append] at ho
                    have N1 := Aside0.mk (fresh2 (v1 := v1) hat rfl)
                    have h_ := Kd.R_grown HO.out hg (fun _ _ e => by cases e); clear HO; have HO := Aside0.mk h_; clear h_
                    clear HB; have HB := Aside0.mk hb; clear hb
                    clear hg hat
                    have H1 := Aside0.mk ho; clear ho
                    obtain ⟨A1, c1, e1⟩ := Kd.R_slice H1.out; subst e1
                    refine hK.out _ _ (by obtain ⟨ad2, A7, c7, eA, y0, _⟩ := HL.out _ (Kd.C_below HR0.out HB.out); cases eA; rw [HRD.out, HP.out, Int.toNat_natCast] at y0; exact y0) (fun hHeld => ?_)
                    clear hK K
                    refine norm_ (a' := ?_) ?_ ?_
                    rotate_left
                    · show Act.put _ (some 65) _ = _
                      simp only [Act.put, List.setIfInBounds_toArray, List.set_cons_zero, List.set_cons_succ, i64_w, i32_w]
                      rfl
                    refine one_ (i := 9) (N := some 71) #[true, true, true, true, true, true, true, true, true, true, false, true, true, true, false, false] rfl rfl (one_of HT_.out (by kernel_rfl)) (by decide) (fun K hK => ?_)
                    refine Kd.R_lit_step Kd.string (w0 := w) w.heap.size 9 rfl rfl (xs := [p]) (inner := [.string p]) (ok := fun _ => True) (okp := fun _ => False) ?aN ⟨rfl, fun j z hj => ?aE⟩ (fun _ h => h.elim) trivial HB.out (below_size HB.out) (by simp) ?_
                    (case aN => go_simp)
                    (case aE => obtain rfl : j = 0 := (by have := (List.getElem?_eq_some_iff.1 hj).1; simpa using this); cases hj; rfl)
                    intro v2 W2 ho hb hg hat
                    have h_ := Kd.R_grown HO.out hg (fun _ _ e => by cases e); clear HO; have HO := Aside0.mk h_; clear h_
                    have h_ := Kd.R_grown H1.out hg (fun _ _ e => by cases e); clear H1; have H1 := Aside0.mk h_; clear h_
                    clear HB; have HB := Aside0.mk hb; clear hb
                    clear hg hat
                    have H2 := Aside0.mk ho; clear ho
                    obtain ⟨A2, c2, e2⟩ := Kd.R_slice H2.out; subst e2
                    refine hK.out _ _ (by obtain ⟨ad2, A7, c7, eA, y0, _⟩ := HL.out _ (Kd.C_below HR0.out HB.out); cases eA; rw [HRD.out, HP.out, Int.toNat_natCast] at y0; exact y0) (fun hHeld => ?_)
                    clear hK K
                    refine norm_ (a' := ?_) ?_ ?_
                    rotate_left
                    · show Act.put _ (some 71) _ = _
                      simp only [Act.put, List.setIfInBounds_toArray, List.set_cons_zero, List.set_cons_succ, i64_w, i32_w]
                      rfl
                    refine one_ (i := 10) (N := some 72) #[true, true, true, true, true, true, true, true, true, true, true, true, true, true, false, false] rfl rfl (one_of HT_.out (by kernel_rfl)) (by decide) (fun K hK => ?_)
                    refine Kd.R_append_rows_step Kd.string (w0 := w) w.heap.size rfl (.tmp 65) (.tmp 71) 24 9 (.string ⟨#[]⟩) 16 rfl Try.underlying24 info9 rfl (by decide) (by omega) _ (o.take q) [p] _ _ _ (fun _ => True) (fun _ => False) rfl rfl H1.out (Kd.R_reads' H2.out).2.2 (fun _ _ h => h) (fun _ h => h.elim) (fun _ _ => trivial) HB.out (below_size HB.out) ?aL ?_
                    (case aL => simp only [List.length_take, List.length_cons, List.length_nil]; omega)
                    intro v3 W3 ho hb hg hat
                    have h_ := Kd.R_grown HO.out hg N1.out; clear HO; have HO := Aside0.mk h_; clear h_
                    clear HB; have HB := Aside0.mk hb; clear hb hg hat H1 H2 N1
                    have H3 := Aside0.mk ho; clear ho
                    obtain ⟨A3, c3, e3⟩ := Kd.R_slice H3.out; subst e3
                    refine hK.out _ _ (by obtain ⟨ad2, A7, c7, eA, y0, _⟩ := HL.out _ (Kd.C_below HR0.out HB.out); cases eA; rw [HRD.out, HP.out, Int.toNat_natCast] at y0; exact y0) (fun hHeld => ?_)
                    clear hK K
                    refine norm_ (a' := ?_) ?_ ?_
                    rotate_left
                    · show Act.put _ (some 72) _ = _
                      simp only [Act.put, List.setIfInBounds_toArray, List.set_cons_zero, List.set_cons_succ, i64_w, i32_w]
                      rfl
                    refine one_ (i := 14) (N := some 76) #[true, true, true, true, true, true, true, true, true, true, true, true, true, true, true, false] rfl rfl (one_of HT_.out (by kernel_rfl)) (by decide) (fun K hK => ?_)
                    refine Kd.R_append_rows_step Kd.string (w0 := w) w.heap.size rfl (.tmp 72) (.tmp 75) 24 9 (.string ⟨#[]⟩) 16 rfl Try.underlying24 info9 rfl (by decide) (by omega) _ (o.take q ++ [p]) (o.drop q) _ _ _ (fun _ => True) (fun _ => False) rfl rfl H3.out ?aR (fun _ _ h => h) (fun _ h => h.elim) (fun _ _ => trivial) HB.out (below_size HB.out) ?aL ?_
                    (case aR => exact (hdr.out _ (Kd.R_reads' HO.out).2.2))
                    (case aL => simp only [List.length_append, List.length_take, List.length_cons, List.length_nil]; omega)
                    intro v4 W4 ho hb hg hat
                    clear HB; have HB := Aside0.mk hb; clear hb hg hat H3 HO
                    have H4 := Aside0.mk ho; clear ho
                    obtain ⟨A4, c4, e4⟩ := Kd.R_slice H4.out; subst e4
                    refine hK.out _ _ (by obtain ⟨ad2, A7, c7, eA, y0, _⟩ := HL.out _ (Kd.C_below HR0.out HB.out); cases eA; rw [HRD.out, HP.out, Int.toNat_natCast] at y0; exact y0) (fun hHeld => ?_)
                    clear hK K
                    refine norm_ (a' := ?_) ?_ ?_
                    rotate_left
                    · show Act.put _ (some 76) _ = _
                      simp only [Act.put, List.setIfInBounds_toArray, List.set_cons_zero, List.set_cons_succ, i64_w, i32_w]
                      rfl
                    refine pure_ (i := 15) (N := some 3) (v := ?_) (a' := ?_) #[true, true, true, true, true, true, true, true, true, true, true, true, true, true, true, true] rfl rfl (any_of HT_.out (by kernel_rfl)) (fun _ _ _ h => h) (Or.inl ⟨by rfl, ?_⟩) ?_ ?_
                    rotate_left
                    · intro w'
                      go_simp
                      with_reducible rfl
                    rotate_left
                    · simp only [Act.put, List.setIfInBounds_toArray, List.set_cons_zero, List.set_cons_succ, i64_w, i32_w]
                      rfl
                    refine done_ (done_of HT_.out (by kernel_rfl)) ?_
                    go_wp2
                    go_roundg (l0.length - (i + 1))
                    case measure => omega
                    case rel => exact ⟨i + 1, by omega, by omega, by go_num, ⟨by rw [HO'.out, HINS.out]; (first | rw [if_neg (by simp)] | skip); (with_reducible repeat (first | apply Kd.R_alloc | apply Kd.R_drewN | apply Kd.R_drew)); have h4 := H4.out; rw [show (List.take q o ++ [p] ++ List.drop q o).length = q + (o.length - q + 1) from by (simp only [List.length_append, List.length_take, List.length_drop, List.length_cons, List.length_nil]; omega)] at h4; exact h4⟩, ⟨by repeat (first | (with_reducible first | exact HB.out | apply below_alloc | apply pw_below_drewN | apply below_drew1) | exact HB.out)⟩⟩
                  · refine Kd.R_lit_step Kd.string (w0 := w) w.heap.size 9 rfl rfl (xs := [p]) (inner := [.string p]) (ok := fun _ => True) (okp := fun _ => False) ?aN ⟨rfl, fun j z hj => ?aE⟩ (fun _ h => h.elim) trivial HB.out (below_size HB.out) (by simp) ?_
                    (case aN => go_simp)
                    (case aE => obtain rfl : j = 0 := (by have := (List.getElem?_eq_some_iff.1 hj).1; simpa using this); cases hj; rfl)
                    intro v2 W1 ho hb hg hat
                    have hle := hg.size
                    have h_ := Kd.R_grown HO.out hg (fun _ _ e => by cases e); clear HO; have HO := Aside0.mk h_; clear h_
                    clear HB; have HB := Aside0.mk hb; clear hb
                    clear hg hat
                    have H2 := Aside0.mk ho; clear ho
                    obtain ⟨A2, c2, e2⟩ := Kd.R_slice H2.out; subst e2
                    refine hK.out _ _ (by obtain ⟨ad2, A7, c7, eA, y0, _⟩ := HL.out _ (Kd.C_below HR0.out HB.out); cases eA; rw [HRD.out, HP.out, Int.toNat_natCast] at y0; exact y0) (fun hHeld => ?_)
                    clear hK K
                    refine norm_ (a' := ?_) ?_ ?_
                    rotate_left
                    · show Act.put _ (some 71) _ = _
                      simp only [Act.put, List.setIfInBounds_toArray, List.set_cons_zero, List.set_cons_succ, i64_w, i32_w]
                      rfl
                    refine one_ (i := 3) (N := some 65) #[true, true, true, true, true, true, true, true, true, true, false, true, true, true, false, false] rfl rfl (one_of HT_.out (by kernel_rfl)) (by decide) (fun K hK => ?_)
                    refine Kd.R_append_rows_step Kd.string (w0 := w) w.heap.size rfl (.const (.slice none 0 0)) (.tmp 64) 24 9 (.string ⟨#[]⟩) 16 rfl Try.underlying24 info9 rfl (by decide) (by omega) (.slice none 0 0) ([] : List ByteArray) (o.take q) _ _ _ (fun _ => True) (fun _ => False) rfl rfl (Kd.R_nil _ _ _ _ (fun _ => True)) ?aR (fun _ _ h => h) (fun _ h => h.elim) (fun _ _ => trivial) HB.out (below_size HB.out) ?aL ?_
                    (case aR => exact (htk.out _ (Kd.R_reads' HO.out).2.2))
                    (case aL => simp only [List.length_nil]; omega)
                    intro v1 W2 ho hb hg hat
                    rw [List.nil_append] at ho
                    have N1 := Aside0.mk (fun k (hk : k < W.heap.size) => fresh2 (v1 := v1) hat rfl k (Nat.lt_of_lt_of_le hk hle))
                    have h_ := Kd.R_grown HO.out hg (fun _ _ e => by cases e); clear HO; have HO := Aside0.mk h_; clear h_
                    have h_ := Kd.R_grown H2.out hg (fun _ _ e => by cases e); clear H2; have H2 := Aside0.mk h_; clear h_
                    clear HB; have HB := Aside0.mk hb; clear hb
                    clear hg hat hle
                    have H1 := Aside0.mk ho; clear ho
                    obtain ⟨A1, c1, e1⟩ := Kd.R_slice H1.out; subst e1
                    refine hK.out _ _ (by obtain ⟨ad2, A7, c7, eA, y0, _⟩ := HL.out _ (Kd.C_below HR0.out HB.out); cases eA; rw [HRD.out, HP.out, Int.toNat_natCast] at y0; exact y0) (fun hHeld => ?_)
                    clear hK K
                    refine norm_ (a' := ?_) ?_ ?_
                    rotate_left
                    · show Act.put _ (some 65) _ = _
                      simp only [Act.put, List.setIfInBounds_toArray, List.set_cons_zero, List.set_cons_succ, i64_w, i32_w]
                      rfl
                    refine one_ (i := 10) (N := some 72) #[true, true, true, true, true, true, true, true, true, true, true, true, true, true, false, false] rfl rfl (one_of HT_.out (by kernel_rfl)) (by decide) (fun K hK => ?_)
                    refine Kd.R_append_rows_step Kd.string (w0 := w) w.heap.size rfl (.tmp 65) (.tmp 71) 24 9 (.string ⟨#[]⟩) 16 rfl Try.underlying24 info9 rfl (by decide) (by omega) _ (o.take q) [p] _ _ _ (fun _ => True) (fun _ => False) rfl rfl H1.out (Kd.R_reads' H2.out).2.2 (fun _ _ h => h) (fun _ h => h.elim) (fun _ _ => trivial) HB.out (below_size HB.out) ?aL ?_
                    (case aL => simp only [List.length_take, List.length_cons, List.length_nil]; omega)
                    intro v3 W3 ho hb hg hat
                    have h_ := Kd.R_grown HO.out hg N1.out; clear HO; have HO := Aside0.mk h_; clear h_
                    clear HB; have HB := Aside0.mk hb; clear hb hg hat H1 H2 N1
                    have H3 := Aside0.mk ho; clear ho
                    obtain ⟨A3, c3, e3⟩ := Kd.R_slice H3.out; subst e3
                    refine hK.out _ _ (by obtain ⟨ad2, A7, c7, eA, y0, _⟩ := HL.out _ (Kd.C_below HR0.out HB.out); cases eA; rw [HRD.out, HP.out, Int.toNat_natCast] at y0; exact y0) (fun hHeld => ?_)
                    clear hK K
                    refine norm_ (a' := ?_) ?_ ?_
                    rotate_left
                    · show Act.put _ (some 72) _ = _
                      simp only [Act.put, List.setIfInBounds_toArray, List.set_cons_zero, List.set_cons_succ, i64_w, i32_w]
                      rfl
                    refine one_ (i := 14) (N := some 76) #[true, true, true, true, true, true, true, true, true, true, true, true, true, true, true, false] rfl rfl (one_of HT_.out (by kernel_rfl)) (by decide) (fun K hK => ?_)
                    refine Kd.R_append_rows_step Kd.string (w0 := w) w.heap.size rfl (.tmp 72) (.tmp 75) 24 9 (.string ⟨#[]⟩) 16 rfl Try.underlying24 info9 rfl (by decide) (by omega) _ (o.take q ++ [p]) (o.drop q) _ _ _ (fun _ => True) (fun _ => False) rfl rfl H3.out ?aR (fun _ _ h => h) (fun _ h => h.elim) (fun _ _ => trivial) HB.out (below_size HB.out) ?aL ?_
                    (case aR => exact (hdr.out _ (Kd.R_reads' HO.out).2.2))
                    (case aL => simp only [List.length_append, List.length_take, List.length_cons, List.length_nil]; omega)
                    intro v4 W4 ho hb hg hat
                    clear HB; have HB := Aside0.mk hb; clear hb hg hat H3 HO
                    have H4 := Aside0.mk ho; clear ho
                    obtain ⟨A4, c4, e4⟩ := Kd.R_slice H4.out; subst e4
                    refine hK.out _ _ (by obtain ⟨ad2, A7, c7, eA, y0, _⟩ := HL.out _ (Kd.C_below HR0.out HB.out); cases eA; rw [HRD.out, HP.out, Int.toNat_natCast] at y0; exact y0) (fun hHeld => ?_)
                    clear hK K
                    refine norm_ (a' := ?_) ?_ ?_
                    rotate_left
                    · show Act.put _ (some 76) _ = _
                      simp only [Act.put, List.setIfInBounds_toArray, List.set_cons_zero, List.set_cons_succ, i64_w, i32_w]
                      rfl
                    refine pure_ (i := 15) (N := some 3) (v := ?_) (a' := ?_) #[true, true, true, true, true, true, true, true, true, true, true, true, true, true, true, true] rfl rfl (any_of HT_.out (by kernel_rfl)) (fun _ _ _ h => h) (Or.inl ⟨by rfl, ?_⟩) ?_ ?_
                    rotate_left
                    · intro w'
                      go_simp
                      with_reducible rfl
                    rotate_left
                    · simp only [Act.put, List.setIfInBounds_toArray, List.set_cons_zero, List.set_cons_succ, i64_w, i32_w]
                      rfl
                    refine done_ (done_of HT_.out (by kernel_rfl)) ?_
                    go_wp2
                    go_roundg (l0.length - (i + 1))
                    case measure => omega
                    case rel => exact ⟨i + 1, by omega, by omega, by go_num, ⟨by rw [HO'.out, HINS.out]; (first | rw [if_neg (by simp)] | skip); (with_reducible repeat (first | apply Kd.R_alloc | apply Kd.R_drewN | apply Kd.R_drew)); have h4 := H4.out; rw [show (List.take q o ++ [p] ++ List.drop q o).length = q + (o.length - q + 1) from by (simp only [List.length_append, List.length_take, List.length_drop, List.length_cons, List.length_nil]; omega)] at h4; exact h4⟩, ⟨by repeat (first | (with_reducible first | exact HB.out | apply below_alloc | apply pw_below_drewN | apply below_drew1) | exact HB.out)⟩⟩
            · have hz2 : decide ((q : Int) < (o.length : Int)) = false := decide_eq_false (by omega)
              have heq := heqa.out
              rw [List.getElem?_eq_none (by omega)] at heq
              have heq : eqAt p o = false := heq
              clear hkstop heqa
              cases tb with
              | false =>
                clear heq hins
                go_wp2
                go_quiet (fail)
                go_wp2
                go_quiet (fail)
                go_wp2
                go_roundg (l0.length - (i + 1))
                case measure => omega
                case rel => exact ⟨i + 1, by omega, by omega, by go_num, ⟨by rw [HO'.out, HST.out]; (first | rw [if_neg (by simp)] | skip); (with_reducible repeat (first | apply Kd.R_alloc | apply Kd.R_drewN | apply Kd.R_drew)); exact HO.out⟩, ⟨by repeat (first | (with_reducible first | exact HB.out | apply below_alloc | apply pw_below_drewN | apply below_drew1) | exact HB.out)⟩⟩
              | true =>
                have HINS := Aside0.mk (show o' = if false = true then o else o.take q ++ [p] ++ o.drop q by rw [HST.out, if_pos rfl, hins.out, heq])
                clear heq hins HST
                go_wp2
                go_quiet (fail)
                go_wp2
                go_quiet (fail)
                go_wp2
                have hct : ∀ W : World, (Instr.slice 24 (.slice _ o.length co) none (some (.int .i64 (q : Int))) none).run Try.prog W = .ok (.slice _ q co) W := fun W => by have := cut_to (P := Try.prog) 24 9 .i64 Try.underlying24 HI9.out Ao o.length co (q : Int) (by omega) (by omega) (Kd.R_reads' HO.out).2.1 W; rw [Int.toNat_natCast] at this; exact this
                have hcf0 : ∀ W : World, (Instr.slice 24 (.slice _ o.length co) (some (.int .i64 (q : Int))) none none).run Try.prog W = .ok (.slice _ (o.length - q) (co - q)) W := fun W => by have := cut_from (P := Try.prog) 24 9 .i64 Try.underlying24 HI9.out 1 HZ9.out Ao o.length co (q : Int) (by omega) (by omega) W; rw [Int.toNat_natCast] at this; exact this
                have hdr0 := fun (W : World) (h : Kd.C Kd.string W Ao o.length o) => Kd.C_drop (m := q) h (by omega) (Kd.R_reads' HO.out).2.1
                obtain ⟨Ad, hAd⟩ : ∃ Ad, (if co = q then Ao else Ao.map (·.add (q * 1))) = Ad := ⟨_, rfl⟩
                have hcf : ∀ W : World, (Instr.slice 24 (.slice Ao o.length co) (some (.int .i64 (q : Int))) none none).run Try.prog W = .ok (.slice Ad (o.length - q) (co - q)) W := fun W => by rw [← hAd]; exact hcf0 W
                have hdr := Aside0.mk (show ∀ W : World, Kd.C Kd.string W Ao o.length o → Kd.C Kd.string W Ad (o.length - q) (o.drop q) from fun W h => by have := hdr0 W h; rw [List.length_drop] at this; rw [← hAd]; exact this)
                have htk := Aside0.mk (show ∀ W : World, Kd.C Kd.string W Ao o.length o → Kd.C Kd.string W Ao q (o.take q) from fun W h => by have := Kd.C_take (m := q) h (by omega); rwa [List.length_take_of_le (by omega)] at this)
                clear hcf0 hdr0 hAd
                refine at_world (F := fun W => (Kd.R Kd.string 9 W w.heap.size (fun _ => True) (.slice Ao o.length co) o ∧ Below w.heap.size w W) ∧ W.cell? (ad.add (i * 7)) = some (.string p)) ⟨⟨by (with_reducible repeat (first | apply Kd.R_alloc | apply Kd.R_drewN | apply Kd.R_drew)); exact HO.out, by repeat (first | (with_reducible first | exact HB.out | apply below_alloc | apply pw_below_drewN | apply below_drew1) | exact HB.out)⟩, by go_simp⟩ ?_
                clear HO HB y0
                rintro W10 ⟨⟨hO, hB⟩, y0⟩
                have HO := Aside0.mk (Kd.R_mono (Kd.R_bound (Kd.R_drew hO)) (ok' := fun k => k < W10.drew.heap.size) (fun _ hk => hk.2.2.1)); have HB := Aside0.mk (below_drew1 hB); clear hO hB
                refine start_ (n := 16) (S := fun w' => w'.cell? (ad.add (i * 7)) = some (.string p)) (ds := []) #[false, false, false, false, false, false, false, false, false, false, false, false, false, false, false, false] (by kernel_rfl) rfl rfl (by go_simp) (fun hHeld => ?_); refine with_tabW rn.tab10 rn.bits10 (fun HT_ HW_ => ?_)
                clear y0
                generalize W10.drew = W at HO HB hHeld ⊢
                refine pure_ (i := 0) (N := some 62) (v := ?_) (a' := ?_) #[true, false, false, false, false, false, false, false, false, false, false, false, false, false, false, false] rfl rfl (any_of HT_.out (by kernel_rfl)) (fun _ _ _ h => h) (Or.inl ⟨by rfl, ?_⟩) ?_ ?_
                rotate_left
                · intro w'
                  go_simp
                  with_reducible rfl
                rotate_left
                · simp only [Act.put, List.setIfInBounds_toArray, List.set_cons_zero, List.set_cons_succ, i64_w, i32_w]
                  rfl
                refine pure_ (i := 1) (N := some 63) (v := ?_) (a' := ?_) #[true, true, false, false, false, false, false, false, false, false, false, false, false, false, false, false] rfl rfl (any_of HT_.out (by kernel_rfl)) (fun _ _ _ h => h) (Or.inl ⟨by rfl, ?_⟩) ?_ ?_
                rotate_left
                · intro w'
                  go_simp
                  with_reducible rfl
                rotate_left
                · simp only [Act.put, List.setIfInBounds_toArray, List.set_cons_zero, List.set_cons_succ, i64_w, i32_w]
                  rfl
                refine pure_ (i := 2) (N := some 64) (v := ?_) (a' := ?_) #[true, true, true, false, false, false, false, false, false, false, false, false, false, false, false, false] rfl rfl (any_of HT_.out (by kernel_rfl)) (fun _ _ _ h => h) (Or.inl ⟨by rfl, ?_⟩) ?_ ?_
                rotate_left
                · intro w'
                  go_simp
                  with_reducible rfl
                rotate_left
                · simp only [Act.put, List.setIfInBounds_toArray, List.set_cons_zero, List.set_cons_succ, i64_w, i32_w]
                  rfl
                refine pure_ (i := 4) (N := some 66) (v := ?_) (a' := ?_) #[true, true, true, false, true, false, false, false, false, false, false, false, false, false, false, false] rfl rfl (any_of HT_.out (by kernel_rfl)) (fun _ _ _ h => h) (Or.inl ⟨by rfl, ?_⟩) ?_ ?_
                rotate_left
                · intro w'
                  go_simp
                  with_reducible rfl
                rotate_left
                · simp only [Act.put, List.setIfInBounds_toArray, List.set_cons_zero, List.set_cons_succ, i64_w, i32_w]
                  rfl
                refine pure_ (i := 5) (N := some 67) (v := ?_) (a' := ?_) #[true, true, true, false, true, true, false, false, false, false, false, false, false, false, false, false] rfl rfl (any_of HT_.out (by kernel_rfl)) (fun _ _ _ h => h) (Or.inl ⟨by rfl, ?_⟩) ?_ ?_
                rotate_left
                · intro w'
                  go_simp
                  with_reducible rfl
                rotate_left
                · simp only [Act.put, List.setIfInBounds_toArray, List.set_cons_zero, List.set_cons_succ, i64_w, i32_w]
                  rfl
                refine pure_ (i := 6) (N := some 68) (v := ?_) (a' := ?_) #[true, true, true, false, true, true, true, false, false, false, false, false, false, false, false, false] rfl rfl (any_of HT_.out (by kernel_rfl)) (fun _ _ _ h => h) (Or.inl ⟨by rfl, ?_⟩) ?_ ?_
                rotate_left
                · intro w'
                  go_simp
                  with_reducible rfl
                rotate_left
                · simp only [Act.put, List.setIfInBounds_toArray, List.set_cons_zero, List.set_cons_succ, i64_w, i32_w]
                  rfl
                refine pure_ (i := 7) (N := some 69) (v := ?_) (a' := ?_) #[true, true, true, false, true, true, true, true, false, false, false, false, false, false, false, false] rfl rfl (any_of HT_.out (by kernel_rfl)) (fun _ _ _ h => h) (Or.inl ⟨by rfl, ?_⟩) ?_ ?_
                rotate_left
                · intro w'
                  go_simp
                  with_reducible rfl
                rotate_left
                · simp only [Act.put, List.setIfInBounds_toArray, List.set_cons_zero, List.set_cons_succ, i64_w, i32_w]
                  rfl
                refine pure_ (i := 11) (N := some 73) (v := ?_) (a' := ?_) #[true, true, true, false, true, true, true, true, false, false, false, true, false, false, false, false] rfl rfl (any_of HT_.out (by kernel_rfl)) (fun _ _ _ h => h) (Or.inl ⟨by rfl, ?_⟩) ?_ ?_
                rotate_left
                · intro w'
                  go_simp
                  with_reducible rfl
                rotate_left
                · simp only [Act.put, List.setIfInBounds_toArray, List.set_cons_zero, List.set_cons_succ, i64_w, i32_w]
                  rfl
                refine pure_ (i := 12) (N := some 74) (v := ?_) (a' := ?_) #[true, true, true, false, true, true, true, true, false, false, false, true, true, false, false, false] rfl rfl (any_of HT_.out (by kernel_rfl)) (fun _ _ _ h => h) (Or.inl ⟨by rfl, ?_⟩) ?_ ?_
                rotate_left
                · intro w'
                  go_simp
                  with_reducible rfl
                rotate_left
                · simp only [Act.put, List.setIfInBounds_toArray, List.set_cons_zero, List.set_cons_succ, i64_w, i32_w]
                  rfl
                refine pure_ (i := 13) (N := some 75) (v := ?_) (a' := ?_) #[true, true, true, false, true, true, true, true, false, false, false, true, true, true, false, false] rfl rfl (any_of HT_.out (by kernel_rfl)) (fun _ _ _ h => h) (Or.inl ⟨by rfl, ?_⟩) ?_ ?_
                rotate_left
                · intro w'
                  go_simp
                  with_reducible rfl
                rotate_left
                · simp only [Act.put, List.setIfInBounds_toArray, List.set_cons_zero, List.set_cons_succ, i64_w, i32_w]
                  rfl
                refine take_ (i := 8) (N := some 70) (v := ?_) (a' := ?_) #[true, true, true, false, true, true, true, true, true, false, false, true, true, true, false, false] rfl rfl (take_ofW HT_.out HW_.out (by kernel_rfl)) (fun _ _ _ h => h) (Or.inl ⟨by rfl, ?_⟩) hHeld ?_ ?_
                rotate_left
                · rintro w' s0
                  go_simp
                  with_reducible rfl
                rotate_left
                · simp only [Act.put, List.setIfInBounds_toArray, List.set_cons_zero, List.set_cons_succ, i64_w, i32_w]
                  rfl
                refine two_ (i := 3) (j := 9) (Ni := some 65) (Nj := some 71) #[true, true, true, true, true, true, true, true, true, false, false, true, true, true, false, false] #[true, true, true, false, true, true, true, true, true, true, false, true, true, true, false, false] rfl rfl rfl rfl (two_of HT_.out (by kernel_rfl)) (by decide) (by decide) (fun K hK => ?_) (fun K hK => ?_)
                · refine Kd.R_append_rows_step Kd.string (w0 := w) w.heap.size rfl (.const (.slice none 0 0)) (.tmp 64) 24 9 (.string ⟨#[]⟩) 16 rfl Try.underlying24 info9 rfl (by decide) (by omega) (.slice none 0 0) ([] : List ByteArray) (o.take q) _ _ _ (fun _ => True) (fun _ => False) rfl rfl (Kd.R_nil _ _ _ _ (fun _ => True)) ?aR (fun _ _ h => h) (fun _ h => h.elim) (fun _ _ => trivial) HB.out (below_size HB.out) ?aL ?_
                  (case aR => exact (htk.out _ (Kd.R_reads' HO.out).2.2))
                  (case aL => simp only [List.length_nil]; omega)
                  intro v1 W1 ho hb hg hat
                  rw [List.nil_append] at ho
                  have N1 := Aside0.mk (fresh2 (v1 := v1) hat rfl)
                  have h_ := Kd.R_grown HO.out hg (fun _ _ e => by cases e); clear HO; have HO := Aside0.mk h_; clear h_
                  clear HB; have HB := Aside0.mk hb; clear hb
                  clear hg hat
                  have H1 := Aside0.mk ho; clear ho
                  obtain ⟨A1, c1, e1⟩ := Kd.R_slice H1.out; subst e1
                  refine hK.out _ _ (by obtain ⟨ad2, A7, c7, eA, y0, _⟩ := HL.out _ (Kd.C_below HR0.out HB.out); cases eA; rw [HRD.out, HP.out, Int.toNat_natCast] at y0; exact y0) (fun hHeld => ?_)
                  clear hK K
                  refine norm_ (a' := ?_) ?_ ?_
                  rotate_left
                  · show Act.put _ (some 65) _ = _
                    simp only [Act.put, List.setIfInBounds_toArray, List.set_cons_zero, List.set_cons_succ, i64_w, i32_w]
                    rfl
                  refine one_ (i := 9) (N := some 71) #[true, true, true, true, true, true, true, true, true, true, false, true, true, true, false, false] rfl rfl (one_of HT_.out (by kernel_rfl)) (by decide) (fun K hK => ?_)
                  refine Kd.R_lit_step Kd.string (w0 := w) w.heap.size 9 rfl rfl (xs := [p]) (inner := [.string p]) (ok := fun _ => True) (okp := fun _ => False) ?aN ⟨rfl, fun j z hj => ?aE⟩ (fun _ h => h.elim) trivial HB.out (below_size HB.out) (by simp) ?_
                  (case aN => go_simp)
                  (case aE => obtain rfl : j = 0 := (by have := (List.getElem?_eq_some_iff.1 hj).1; simpa using this); cases hj; rfl)
                  intro v2 W2 ho hb hg hat
                  have h_ := Kd.R_grown HO.out hg (fun _ _ e => by cases e); clear HO; have HO := Aside0.mk h_; clear h_
                  have h_ := Kd.R_grown H1.out hg (fun _ _ e => by cases e); clear H1; have H1 := Aside0.mk h_; clear h_
                  clear HB; have HB := Aside0.mk hb; clear hb
                  clear hg hat
                  have H2 := Aside0.mk ho; clear ho
                  obtain ⟨A2, c2, e2⟩ := Kd.R_slice H2.out; subst e2
                  refine hK.out _ _ (by obtain ⟨ad2, A7, c7, eA, y0, _⟩ := HL.out _ (Kd.C_below HR0.out HB.out); cases eA; rw [HRD.out, HP.out, Int.toNat_natCast] at y0; exact y0) (fun hHeld => ?_)
                  clear hK K
                  refine norm_ (a' := ?_) ?_ ?_
                  rotate_left
                  · show Act.put _ (some 71) _ = _
                    simp only [Act.put, List.setIfInBounds_toArray, List.set_cons_zero, List.set_cons_succ, i64_w, i32_w]
                    rfl
                  refine one_ (i := 10) (N := some 72) #[true, true, true, true, true, true, true, true, true, true, true, true, true, true, false, false] rfl rfl (one_of HT_.out (by kernel_rfl)) (by decide) (fun K hK => ?_)
                  refine Kd.R_append_rows_step Kd.string (w0 := w) w.heap.size rfl (.tmp 65) (.tmp 71) 24 9 (.string ⟨#[]⟩) 16 rfl Try.underlying24 info9 rfl (by decide) (by omega) _ (o.take q) [p] _ _ _ (fun _ => True) (fun _ => False) rfl rfl H1.out (Kd.R_reads' H2.out).2.2 (fun _ _ h => h) (fun _ h => h.elim) (fun _ _ => trivial) HB.out (below_size HB.out) ?aL ?_
                  (case aL => simp only [List.length_take, List.length_cons, List.length_nil]; omega)
                  intro v3 W3 ho hb hg hat
                  have h_ := Kd.R_grown HO.out hg N1.out; clear HO; have HO := Aside0.mk h_; clear h_
                  clear HB; have HB := Aside0.mk hb; clear hb hg hat H1 H2 N1
                  have H3 := Aside0.mk ho; clear ho
                  obtain ⟨A3, c3, e3⟩ := Kd.R_slice H3.out; subst e3
                  refine hK.out _ _ (by obtain ⟨ad2, A7, c7, eA, y0, _⟩ := HL.out _ (Kd.C_below HR0.out HB.out); cases eA; rw [HRD.out, HP.out, Int.toNat_natCast] at y0; exact y0) (fun hHeld => ?_)
                  clear hK K
                  refine norm_ (a' := ?_) ?_ ?_
                  rotate_left
                  · show Act.put _ (some 72) _ = _
                    simp only [Act.put, List.setIfInBounds_toArray, List.set_cons_zero, List.set_cons_succ, i64_w, i32_w]
                    rfl
                  refine one_ (i := 14) (N := some 76) #[true, true, true, true, true, true, true, true, true, true, true, true, true, true, true, false] rfl rfl (one_of HT_.out (by kernel_rfl)) (by decide) (fun K hK => ?_)
                  refine Kd.R_append_rows_step Kd.string (w0 := w) w.heap.size rfl (.tmp 72) (.tmp 75) 24 9 (.string ⟨#[]⟩) 16 rfl Try.underlying24 info9 rfl (by decide) (by omega) _ (o.take q ++ [p]) (o.drop q) _ _ _ (fun _ => True) (fun _ => False) rfl rfl H3.out ?aR (fun _ _ h => h) (fun _ h => h.elim) (fun _ _ => trivial) HB.out (below_size HB.out) ?aL ?_
                  (case aR => exact (hdr.out _ (Kd.R_reads' HO.out).2.2))
                  (case aL => simp only [List.length_append, List.length_take, List.length_cons, List.length_nil]; omega)
                  intro v4 W4 ho hb hg hat
                  clear HB; have HB := Aside0.mk hb; clear hb hg hat H3 HO
                  have H4 := Aside0.mk ho; clear ho
                  obtain ⟨A4, c4, e4⟩ := Kd.R_slice H4.out; subst e4
                  refine hK.out _ _ (by obtain ⟨ad2, A7, c7, eA, y0, _⟩ := HL.out _ (Kd.C_below HR0.out HB.out); cases eA; rw [HRD.out, HP.out, Int.toNat_natCast] at y0; exact y0) (fun hHeld => ?_)
                  clear hK K
                  refine norm_ (a' := ?_) ?_ ?_
                  rotate_left
                  · show Act.put _ (some 76) _ = _
                    simp only [Act.put, List.setIfInBounds_toArray, List.set_cons_zero, List.set_cons_succ, i64_w, i32_w]
                    rfl
                  refine pure_ (i := 15) (N := some 3) (v := ?_) (a' := ?_) #[true, true, true, true, true, true, true, true, true, true, true, true, true, true, true, true] rfl rfl (any_of HT_.out (by kernel_rfl)) (fun _ _ _ h => h) (Or.inl ⟨by rfl, ?_⟩) ?_ ?_
                  rotate_left
                  · intro w'
                    go_simp
                    with_reducible rfl
                  rotate_left
                  · simp only [Act.put, List.setIfInBounds_toArray, List.set_cons_zero, List.set_cons_succ, i64_w, i32_w]
                    rfl
                  refine done_ (done_of HT_.out (by kernel_rfl)) ?_
                  go_wp2
                  go_roundg (l0.length - (i + 1))
                  case measure => omega
                  case rel => exact ⟨i + 1, by omega, by omega, by go_num, ⟨by rw [HO'.out, HINS.out]; (first | rw [if_neg (by simp)] | skip); (with_reducible repeat (first | apply Kd.R_alloc | apply Kd.R_drewN | apply Kd.R_drew)); have h4 := H4.out; rw [show (List.take q o ++ [p] ++ List.drop q o).length = q + (o.length - q + 1) from by (simp only [List.length_append, List.length_take, List.length_drop, List.length_cons, List.length_nil]; omega)] at h4; exact h4⟩, ⟨by repeat (first | (with_reducible first | exact HB.out | apply below_alloc | apply pw_below_drewN | apply below_drew1) | exact HB.out)⟩⟩
                · refine Kd.R_lit_step Kd.string (w0 := w) w.heap.size 9 rfl rfl (xs := [p]) (inner := [.string p]) (ok := fun _ => True) (okp := fun _ => False) ?aN ⟨rfl, fun j z hj => ?aE⟩ (fun _ h => h.elim) trivial HB.out (below_size HB.out) (by simp) ?_
                  (case aN => go_simp)
                  (case aE => obtain rfl : j = 0 := (by have := (List.getElem?_eq_some_iff.1 hj).1; simpa using this); cases hj; rfl)
                  intro v2 W1 ho hb hg hat
                  have hle := hg.size
                  have h_ := Kd.R_grown HO.out hg (fun _ _ e => by cases e); clear HO; have HO := Aside0.mk h_; clear h_
                  clear HB; have HB := Aside0.mk hb; clear hb
                  clear hg hat
                  have H2 := Aside0.mk ho; clear ho
                  obtain ⟨A2, c2, e2⟩ := Kd.R_slice H2.out; subst e2
                  refine hK.out _ _ (by obtain ⟨ad2, A7, c7, eA, y0, _⟩ := HL.out _ (Kd.C_below HR0.out HB.out); cases eA; rw [HRD.out, HP.out, Int.toNat_natCast] at y0; exact y0) (fun hHeld => ?_)
                  clear hK K
                  refine norm_ (a' := ?_) ?_ ?_
                  rotate_left
                  · show Act.put _ (some 71) _ = _
                    simp only [Act.put, List.setIfInBounds_toArray, List.set_cons_zero, List.set_cons_succ, i64_w, i32_w]
                    rfl
                  refine one_ (i := 3) (N := some 65) #[true, true, true, true, true, true, true, true, true, true, false, true, true, true, false, false] rfl rfl (one_of HT_.out (by kernel_rfl)) (by decide) (fun K hK => ?_)
                  refine Kd.R_append_rows_step Kd.string (w0 := w) w.heap.size rfl (.const (.slice none 0 0)) (.tmp 64) 24 9 (.string ⟨#[]⟩) 16 rfl Try.underlying24 info9 rfl (by decide) (by omega) (.slice none 0 0) ([] : List ByteArray) (o.take q) _ _ _ (fun _ => True) (fun _ => False) rfl rfl (Kd.R_nil _ _ _ _ (fun _ => True)) ?aR (fun _ _ h => h) (fun _ h => h.elim) (fun _ _ => trivial) HB.out (below_size HB.out) ?aL ?_
                  (case aR => exact (htk.out _ (Kd.R_reads' HO.out).2.2))
                  (case aL => simp only [List.length_nil]; omega)
                  intro v1 W2 ho hb hg hat
                  rw [List.nil_append] at ho
                  have N1 := Aside0.mk (fun k (hk : k < W.heap.size) => fresh2 (v1 := v1) hat rfl k (Nat.lt_of_lt_of_le hk hle))
                  have h_ := Kd.R_grown HO.out hg (fun _ _ e => by cases e); clear HO; have HO := Aside0.mk h_; clear h_
                  have h_ := Kd.R_grown H2.out hg (fun _ _ e => by cases e); clear H2; have H2 := Aside0.mk h_; clear h_
                  clear HB; have HB := Aside0.mk hb; clear hb
                  clear hg hat hle
                  have H1 := Aside0.mk ho; clear ho
                  obtain ⟨A1, c1, e1⟩ := Kd.R_slice H1.out; subst e1
                  refine hK.out _ _ (by obtain ⟨ad2, A7, c7, eA, y0, _⟩ := HL.out _ (Kd.C_below HR0.out HB.out); cases eA; rw [HRD.out, HP.out, Int.toNat_natCast] at y0; exact y0) (fun hHeld => ?_)
                  clear hK K
                  refine norm_ (a' := ?_) ?_ ?_
                  rotate_left
                  · show Act.put _ (some 65) _ = _
                    simp only [Act.put, List.setIfInBounds_toArray, List.set_cons_zero, List.set_cons_succ, i64_w, i32_w]
                    rfl
                  refine one_ (i := 10) (N := some 72) #[true, true, true, true, true, true, true, true, true, true, true, true, true, true, false, false] rfl rfl (one_of HT_.out (by kernel_rfl)) (by decide) (fun K hK => ?_)
                  refine Kd.R_append_rows_step Kd.string (w0 := w) w.heap.size rfl (.tmp 65) (.tmp 71) 24 9 (.string ⟨#[]⟩) 16 rfl Try.underlying24 info9 rfl (by decide) (by omega) _ (o.take q) [p] _ _ _ (fun _ => True) (fun _ => False) rfl rfl H1.out (Kd.R_reads' H2.out).2.2 (fun _ _ h => h) (fun _ h => h.elim) (fun _ _ => trivial) HB.out (below_size HB.out) ?aL ?_
                  (case aL => simp only [List.length_take, List.length_cons, List.length_nil]; omega)
                  intro v3 W3 ho hb hg hat
                  have h_ := Kd.R_grown HO.out hg N1.out; clear HO; have HO := Aside0.mk h_; clear h_
                  clear HB; have HB := Aside0.mk hb; clear hb hg hat H1 H2 N1
                  have H3 := Aside0.mk ho; clear ho
                  obtain ⟨A3, c3, e3⟩ := Kd.R_slice H3.out; subst e3
                  refine hK.out _ _ (by obtain ⟨ad2, A7, c7, eA, y0, _⟩ := HL.out _ (Kd.C_below HR0.out HB.out); cases eA; rw [HRD.out, HP.out, Int.toNat_natCast] at y0; exact y0) (fun hHeld => ?_)
                  clear hK K
                  refine norm_ (a' := ?_) ?_ ?_
                  rotate_left
                  · show Act.put _ (some 72) _ = _
                    simp only [Act.put, List.setIfInBounds_toArray, List.set_cons_zero, List.set_cons_succ, i64_w, i32_w]
                    rfl
                  refine one_ (i := 14) (N := some 76) #[true, true, true, true, true, true, true, true, true, true, true, true, true, true, true, false] rfl rfl (one_of HT_.out (by kernel_rfl)) (by decide) (fun K hK => ?_)
                  refine Kd.R_append_rows_step Kd.string (w0 := w) w.heap.size rfl (.tmp 72) (.tmp 75) 24 9 (.string ⟨#[]⟩) 16 rfl Try.underlying24 info9 rfl (by decide) (by omega) _ (o.take q ++ [p]) (o.drop q) _ _ _ (fun _ => True) (fun _ => False) rfl rfl H3.out ?aR (fun _ _ h => h) (fun _ h => h.elim) (fun _ _ => trivial) HB.out (below_size HB.out) ?aL ?_
                  (case aR => exact (hdr.out _ (Kd.R_reads' HO.out).2.2))
                  (case aL => simp only [List.length_append, List.length_take, List.length_cons, List.length_nil]; omega)
                  intro v4 W4 ho hb hg hat
                  clear HB; have HB := Aside0.mk hb; clear hb hg hat H3 HO
                  have H4 := Aside0.mk ho; clear ho
                  obtain ⟨A4, c4, e4⟩ := Kd.R_slice H4.out; subst e4
                  refine hK.out _ _ (by obtain ⟨ad2, A7, c7, eA, y0, _⟩ := HL.out _ (Kd.C_below HR0.out HB.out); cases eA; rw [HRD.out, HP.out, Int.toNat_natCast] at y0; exact y0) (fun hHeld => ?_)
                  clear hK K
                  refine norm_ (a' := ?_) ?_ ?_
                  rotate_left
                  · show Act.put _ (some 76) _ = _
                    simp only [Act.put, List.setIfInBounds_toArray, List.set_cons_zero, List.set_cons_succ, i64_w, i32_w]
                    rfl
                  refine pure_ (i := 15) (N := some 3) (v := ?_) (a' := ?_) #[true, true, true, true, true, true, true, true, true, true, true, true, true, true, true, true] rfl rfl (any_of HT_.out (by kernel_rfl)) (fun _ _ _ h => h) (Or.inl ⟨by rfl, ?_⟩) ?_ ?_
                  rotate_left
                  · intro w'
                    go_simp
                    with_reducible rfl
                  rotate_left
                  · simp only [Act.put, List.setIfInBounds_toArray, List.set_cons_zero, List.set_cons_succ, i64_w, i32_w]
                    rfl
                  refine done_ (done_of HT_.out (by kernel_rfl)) ?_
                  go_wp2
                  go_roundg (l0.length - (i + 1))
                  case measure => omega
                  case rel => exact ⟨i + 1, by omega, by omega, by go_num, ⟨by rw [HO'.out, HINS.out]; (first | rw [if_neg (by simp)] | skip); (with_reducible repeat (first | apply Kd.R_alloc | apply Kd.R_drewN | apply Kd.R_drew)); have h4 := H4.out; rw [show (List.take q o ++ [p] ++ List.drop q o).length = q + (o.length - q + 1) from by (simp only [List.length_append, List.length_take, List.length_drop, List.length_cons, List.length_nil]; omega)] at h4; exact h4⟩, ⟨by repeat (first | (with_reducible first | exact HB.out | apply below_alloc | apply pw_below_drewN | apply below_drew1) | exact HB.out)⟩⟩
      · have hz : decide ((i : Int) < (l0.length : Int)) = false := decide_eq_false (by omega)
        obtain rfl : i = l0.length := by omega
        obtain ⟨Ao, co, eo⟩ := Kd.R_slice HO.out
        subst eo
        go_wp2
        go_ret
        exact ⟨_, rfl, HO.out, HB.out⟩
  · rw [if_neg hl] at h
    cases h

end Go.Proofs.Ytjmbedbapoofdaa.P
