/- ListingNames: the law's own walk, each test's answer known ahead. -/
import Derived.Test.YtjmbedbapoofdaaPx0
import Derived.Test.YtjmbedbapoofdaaPx6
import Derived.Test.YtjmbedbapoofdaaMGet
import Derived.Test.YtjmbedbapoofdaaMListNextPure
import Derived.Test.YtjmbedbapoofdaaMListPure
import Derived.Test.YtjmbedbapoofdaaMSortS
import Derived.Lib.Hide
import Derived.Laws.Cover1
namespace Go.Proofs.Ytjmbedbapoofdaa.P
open Go.RowKit Go.Proofs.YtjmbedbapoofdaaW.PrintWords Go.Proofs.YtjmbedbapoofdaaW.PrintLast Go.Proofs.YtjmbedbapoofdaaW.PrintMore
set_option linter.unusedVariables false
set_option linter.unusedSimpArgs false

theorem ba_ext {a b : ByteArray} (h : a.data.toList = b.data.toList) : a = b := by
  obtain ⟨⟨a⟩⟩ := a; obtain ⟨⟨b⟩⟩ := b; simp at h; subst h; rfl
theorem lb_mem (x : ByteArray) (l : List ByteArray) : x.data.toList ∈ lb l ↔ x ∈ l := by
  unfold lb
  constructor
  · intro h
    obtain ⟨y, hy, e⟩ := List.mem_map.1 h
    rw [← ba_ext e]; exact hy
  · intro h; exact List.mem_map.2 ⟨x, h, rfl⟩
theorem names_mem (l : List File) (p : ByteArray) : p ∈ namesS l ↔ ∃ x ∈ l, x.f0 = p ∧ (NewestS l p).2 = true := by
  rw [← lb_mem, (names_spec l).1, lb_mem, namesRaw, List.mem_map]
  constructor
  · rintro ⟨x, hx, rfl⟩
    obtain ⟨h1, h2⟩ := List.mem_filter.1 hx
    exact ⟨x, h1, rfl, h2⟩
  · rintro ⟨x, h1, rfl, h2⟩
    exact ⟨x, List.mem_filter.2 ⟨h1, h2⟩, rfl⟩
theorem names_less (l : List File) (i : Nat) (h0 : 0 < i) (hi : i < (namesS l).length) : Op.bytesLess ((namesS l)[i - 1]).toList ((namesS l)[i]).toList = true := by
  rw [Proofs.bytesLess_eq, Lib.toList_data, Lib.toList_data]
  have h := (names_spec l).2
  rw [List.pairwise_iff_getElem] at h
  have := h (i - 1) i (by rw [lb_length]; omega) (by rw [lb_length]; exact hi) (by omega)
  simpa [lb] using this
theorem names_len (l : List File) : (namesS l).length ≤ l.length := by
  have h1 : (lb (namesS l)).Nodup := (names_spec l).2.imp (fun h e => by subst e; exact List.lt_irrefl _ h)
  have h2 := h1.length_le_of_subset (fun x hx => ((names_spec l).1 x).1 hx)
  rw [lb_length, lb_length] at h2
  refine Nat.le_trans h2 ?_
  unfold namesRaw
  rw [List.length_map]
  exact List.length_filter_le _ _
theorem rdOf_get (l : List ByteArray) (i : Nat) (h : i < l.length) : rdOf ByteArray.empty l (i : Int) = l[i] := by
  simp [rdOf, List.getElem?_eq_getElem h]
theorem names_get_ok (l : List File) (i : Nat) (hi : i < (namesS l).length) : (NewestS l (namesS l)[i]).2 = true := by
  obtain ⟨_, _, _, h⟩ := (names_mem l _).1 (List.getElem_mem hi)
  exact h
def inN (N : List ByteArray) (p : ByteArray) (k : Nat) : Bool := (N.take k).any (fun q => q.toList == p.toList)
theorem inN_succ (N : List ByteArray) (p : ByteArray) (k : Nat) (h : k < N.length) : inN N p (k + 1) = (inN N p k || (N[k].toList == p.toList)) := by
  unfold inN
  rw [List.take_succ_eq_append_getElem h, List.any_append]
  simp
theorem inN_all (l : List File) (p : ByteArray) (hp : ∃ x ∈ l, x.f0 = p) : inN (namesS l) p (namesS l).length = (NewestS l p).2 := by
  unfold inN
  rw [List.take_length, Bool.eq_iff_iff, List.any_eq_true]
  constructor
  · rintro ⟨q, hq, e⟩
    rw [beq_iff_eq, Lib.toList_data, Lib.toList_data] at e
    rw [← ba_ext e]
    exact ((names_mem l q).1 hq).elim (fun _ h => h.2.2)
  · intro h
    obtain ⟨x, hx, e⟩ := hp
    exact ⟨p, (names_mem l p).2 ⟨x, hx, e, h⟩, by simp⟩
theorem R_put7 {base g6 : Nat} {ok : Nat → Prop} {W : World} {v : Value} {xs : List ByteArray} {e : Nat} (h : Kd.R Kd.string e W base ok v xs) (hne : some g6 ≠ v.ownBlock) (u0 u1 u2 u3 u4 u5 u6 : Value) : Kd.R Kd.string e (((((((W.setCell ⟨g6, 0, none⟩ u0).setCell ⟨g6, 1, none⟩ u1).setCell ⟨g6, 2, none⟩ u2).setCell ⟨g6, 3, none⟩ u3).setCell ⟨g6, 4, none⟩ u4).setCell ⟨g6, 5, none⟩ u5).setCell ⟨g6, 6, none⟩ u6) base ok v xs :=
  Kd.R_mono (Kd.R_far (Kd.R_far (Kd.R_far (Kd.R_far (Kd.R_far (Kd.R_far (Kd.R_far (Kd.R_far1 h rfl hne) (fun _ hk => hk.2) u0) (fun _ hk => hk.2) u1) (fun _ hk => hk.2) u2) (fun _ hk => hk.2) u3) (fun _ hk => hk.2) u4) (fun _ hk => hk.2) u5) (fun _ hk => hk.2) u6) (fun _ hk => hk.1)
set_option maxHeartbeats 40000000 in
set_option maxRecDepth 100000 in
theorem listingNames_walk (A0 : Option Addr) (c0 : Nat) (l0 : List File) (w : World) (hr0 : Kd.C k28 w A0 l0.length l0) (hc0 : l0.length ≤ c0) (hs : ∀ x ∈ l0, small x) :
    Calls Try.prog 3 #[.slice A0 l0.length c0] w fun e w' => e = .returned (.bool true) ∧ Below w.heap.size w w' := by
  have hu := Try.underlying28
  have HR0 := Aside0.mk hr0
  have HC0 := Aside0.mk hc0
  clear hr0 hc0
  have hal := fun W => cartridgelaw18_alive.calls 100 true W (alive18 100 (by omega))
  by_cases h40 : (l0.length : Int) > 40
  · have h40' : decide ((40 : Int) < (l0.length : Int)) = true := decide_eq_true h40
    go_enter Try.func3, Try.ntmps3
    go_wp2_with (first | (go_at_call 6; refine (hal _).mono ?_; rintro e w1 ⟨rfl, hb⟩; have HB := Aside0.mk hb; clear hb))
    go_ret
    exact ⟨rfl, HB.out⟩
  · have h40' : decide ((40 : Int) < (l0.length : Int)) = false := decide_eq_false h40
    have hl : l0.length ≤ 40 := by omega
    have hN := fun W (hC : Kd.C k28 W A0 l0.length l0) => listing_Names.calls 200 A0 c0 l0 (namesS l0) W hC HC0.out (Names_eq 200 l0 (by omega) hs (by omega))
    have hnl := names_len l0
    go_enter Try.func3, Try.ntmps3
    go_wp2_with (first
      | (go_at_call 6; refine (hal _).mono ?_; rintro e w1 ⟨rfl, hb⟩; have HB1 := Aside0.mk hb; clear hb)
      | (go_at_call 7; refine (hN _ (by apply Kd.C_below HR0.out; exact HB1.out)).mono ?_; rintro e w2 ⟨v, rfl, ho, hb⟩; have HO := Aside0.mk (Kd.R_lower ho HB1.out.size); have HB := Aside0.mk (HB1.out.trans (hb.mono HB1.out.size)); obtain ⟨An, cn, en⟩ := Kd.R_slice ho; subst en; clear ho hb HB1))
    go_loopg [5] (namesS l0).length (fun gg s5 wr => ∃ i : Nat, i ≤ (namesS l0).length ∧ (namesS l0).length - i ≤ gg ∧ s5 = .int .i64 i ∧ Aside0 (Kd.R Kd.string 9 wr w.heap.size (fun _ => True) (.slice An (namesS l0).length cn) (namesS l0)) ∧ Aside0 (Below w.heap.size w wr))
    case atStart => exact ⟨0, by omega, by omega, rfl, ⟨HO.out⟩, ⟨HB.out⟩⟩
    case round =>
      clear HO HB
      obtain ⟨i, hi, hg, rfl, HO, HB⟩ := hrel
      by_cases hlt : i < (namesS l0).length
      · have hz : decide ((i : Int) < ((namesS l0).length : Int)) = true := decide_eq_true (by omega)
        obtain ⟨ad, cc, ea⟩ := Kd.R_slice1 HO.out (by omega)
        injection ea with ea _ ec
        subst ea ec
        obtain ⟨gn, rfl⟩ := Kd.R_head HO.out
        have xi := (Kd.R_cell ByteArray.empty HO.out (i : Int) (by omega) (by omega)).1
        rw [Int.toNat_natCast, rdOf_get _ i hlt] at xi
        obtain ⟨p, hp⟩ : ∃ p, (namesS l0)[i] = p := ⟨_, rfl⟩
        rw [hp] at xi
        have hok := names_get_ok l0 i hlt
        rw [hp] at hok
        have hE : listing_Newest.f 200 l0 p = some ((NewestS l0 p).1.f0, (NewestS l0 p).1.f1, (NewestS l0 p).1.f2, (NewestS l0 p).1.f3, (NewestS l0 p).1.f4, (NewestS l0 p).1.f5, (NewestS l0 p).1.f6, true) := by rw [Newest_eq 200 l0 p (by omega) (by omega) hs, ← hok]; rfl
        obtain ⟨⟨⟨t0, t1, t2, t3, t4, t5, t6⟩, tb⟩, ht⟩ : ∃ t, NewestS l0 p = t := ⟨_, rfl⟩
        rw [ht] at hE hok
        have hC := fun W (hC : Kd.C k28 W A0 l0.length l0) => listing_Newest.calls 200 A0 c0 l0 p t0 t1 t2 t3 t4 t5 t6 true W hC HC0.out hE
        have q0 : (0 ≤ (i : Int)) = True := eq_true (by omega)
        have q1 : ((i : Int) < ((namesS l0).length : Int)) = True := eq_true (by omega)
        clear ht hok hE
        rcases Nat.eq_zero_or_pos i with h0 | h0
        · subst h0
          go_wp2_with (first
            | (go_at_call 8; refine (hC _ (by apply Kd.C_below HR0.out; exact HB.out)).mono ?_; rintro e w3 ⟨v, rfl, ho, hb⟩; have HO3 := Aside0.mk (Kd.R_below HO.out hb); have HB3 := Aside0.mk (HB.out.trans (hb.mono HB.out.size)); obtain ⟨Av, cv, ev⟩ := Kd.R_slice ho; subst ev; clear ho hb hC HO)
            | ((with_reducible refine gate_dst (N := 6) rfl ?_); refine box_event ?hg (N := 6) ?hd (cs := #[.string (⟨#[]⟩ : ByteArray), .int .i64 0, .int .i64 0, .int .i64 0, .int .i64 0, .bool false, .slice none 0 0]) (t := 28) ?hr ?_; (case hd => rfl); (case hg => rfl); (case hr => first | (go_simp; done) | (go_simp; rfl)); intro g6 hg w6 hbox hb; have HO6 := Aside0.mk (Kd.R_below HO3.out hb); have HB6 := Aside0.mk (HB3.out.trans (hb.mono HB3.out.size)); have G6 := Aside0.mk (show w.heap.size ≤ g6 by rw [hg]; exact HB3.out.size); have NE := Aside0.mk (show gn ≠ g6 by rw [hg]; exact Nat.ne_of_lt (Kd.R_lt HO3.out gn rfl)); obtain ⟨⟨d0, d1, d2, d3, d4, d5, d6⟩, hf⟩ := cells_file hbox; have hf0 := hf 0; have hf1 := hf 1; have hf2 := hf 2; have hf3 := hf 3; have hf4 := hf 4; have hf5 := hf 5; have hf6 := hf 6; clear hf hbox hb hg xi))
          have HO9 := Aside0.mk (show Kd.R Kd.string 9 (((((((w6.setCell ⟨g6, 0, none⟩ (.string t0)).setCell ⟨g6, 1, none⟩ (.int .i64 t1)).setCell ⟨g6, 2, none⟩ (.int .i64 t2)).setCell ⟨g6, 3, none⟩ (.int .i64 t3)).setCell ⟨g6, 4, none⟩ (.int .i64 t4)).setCell ⟨g6, 5, none⟩ (.bool t5)).setCell ⟨g6, 6, none⟩ (.slice Av t6.length cv)) w.heap.size (fun _ => True) (.slice (some ⟨gn, 0, none⟩) (namesS l0).length cn) (namesS l0) from R_put7 HO6.out (fun e => NE.out (by simpa [Value.ownBlock] using e.symm)) _ _ _ _ _ _ _)
          have HB9 := Aside0.mk (show Below w.heap.size w (((((((w6.setCell ⟨g6, 0, none⟩ (.string t0)).setCell ⟨g6, 1, none⟩ (.int .i64 t1)).setCell ⟨g6, 2, none⟩ (.int .i64 t2)).setCell ⟨g6, 3, none⟩ (.int .i64 t3)).setCell ⟨g6, 4, none⟩ (.int .i64 t4)).setCell ⟨g6, 5, none⟩ (.bool t5)).setCell ⟨g6, 6, none⟩ (.slice Av t6.length cv)) by repeat (first | (with_reducible first | exact HB6.out | refine below_set ?_ G6.out) | exact HB6.out))
          generalize (((((((w6.setCell ⟨g6, 0, none⟩ (.string t0)).setCell ⟨g6, 1, none⟩ (.int .i64 t1)).setCell ⟨g6, 2, none⟩ (.int .i64 t2)).setCell ⟨g6, 3, none⟩ (.int .i64 t3)).setCell ⟨g6, 4, none⟩ (.int .i64 t4)).setCell ⟨g6, 5, none⟩ (.bool t5)).setCell ⟨g6, 6, none⟩ (.slice Av t6.length cv)) = W9 at HO9 HB9 ⊢
          clear HO6 HB6 HO3 HB3 d0 d1 d2 d3 d4 d5 d6 hf0 hf1 hf2 hf3 hf4 hf5 hf6 G6 NE
          repeat (go_quiet (fail); try go_wp2)
          go_roundg ((namesS l0).length - (1))
          case measure => omega
          case rel => exact ⟨1, by omega, by omega, by go_num, ⟨by (with_reducible repeat (first | apply Kd.R_alloc | apply Kd.R_drewN | apply Kd.R_drew)); exact HO9.out⟩, ⟨by repeat (first | (with_reducible first | exact HB9.out | apply below_alloc | apply pw_below_drewN | apply below_drew1) | exact HB9.out)⟩⟩
        · skip
          go_wp2_with (first
            | (go_at_call 8; refine (hC _ (by apply Kd.C_below HR0.out; exact HB.out)).mono ?_; rintro e w3 ⟨v, rfl, ho, hb⟩; have HO3 := Aside0.mk (Kd.R_below HO.out hb); have HB3 := Aside0.mk (HB.out.trans (hb.mono HB.out.size)); obtain ⟨Av, cv, ev⟩ := Kd.R_slice ho; subst ev; clear ho hb hC HO)
            | ((with_reducible refine gate_dst (N := 6) rfl ?_); refine box_event ?hg (N := 6) ?hd (cs := #[.string (⟨#[]⟩ : ByteArray), .int .i64 0, .int .i64 0, .int .i64 0, .int .i64 0, .bool false, .slice none 0 0]) (t := 28) ?hr ?_; (case hd => rfl); (case hg => rfl); (case hr => first | (go_simp; done) | (go_simp; rfl)); intro g6 hg w6 hbox hb; have HO6 := Aside0.mk (Kd.R_below HO3.out hb); have HB6 := Aside0.mk (HB3.out.trans (hb.mono HB3.out.size)); have G6 := Aside0.mk (show w.heap.size ≤ g6 by rw [hg]; exact HB3.out.size); have NE := Aside0.mk (show gn ≠ g6 by rw [hg]; exact Nat.ne_of_lt (Kd.R_lt HO3.out gn rfl)); obtain ⟨⟨d0, d1, d2, d3, d4, d5, d6⟩, hf⟩ := cells_file hbox; have hf0 := hf 0; have hf1 := hf 1; have hf2 := hf 2; have hf3 := hf 3; have hf4 := hf 4; have hf5 := hf 5; have hf6 := hf 6; clear hf hbox hb hg xi))
          have HO9 := Aside0.mk (show Kd.R Kd.string 9 (((((((w6.setCell ⟨g6, 0, none⟩ (.string t0)).setCell ⟨g6, 1, none⟩ (.int .i64 t1)).setCell ⟨g6, 2, none⟩ (.int .i64 t2)).setCell ⟨g6, 3, none⟩ (.int .i64 t3)).setCell ⟨g6, 4, none⟩ (.int .i64 t4)).setCell ⟨g6, 5, none⟩ (.bool t5)).setCell ⟨g6, 6, none⟩ (.slice Av t6.length cv)) w.heap.size (fun _ => True) (.slice (some ⟨gn, 0, none⟩) (namesS l0).length cn) (namesS l0) from R_put7 HO6.out (fun e => NE.out (by simpa [Value.ownBlock] using e.symm)) _ _ _ _ _ _ _)
          have HB9 := Aside0.mk (show Below w.heap.size w (((((((w6.setCell ⟨g6, 0, none⟩ (.string t0)).setCell ⟨g6, 1, none⟩ (.int .i64 t1)).setCell ⟨g6, 2, none⟩ (.int .i64 t2)).setCell ⟨g6, 3, none⟩ (.int .i64 t3)).setCell ⟨g6, 4, none⟩ (.int .i64 t4)).setCell ⟨g6, 5, none⟩ (.bool t5)).setCell ⟨g6, 6, none⟩ (.slice Av t6.length cv)) by repeat (first | (with_reducible first | exact HB6.out | refine below_set ?_ G6.out) | exact HB6.out))
          generalize (((((((w6.setCell ⟨g6, 0, none⟩ (.string t0)).setCell ⟨g6, 1, none⟩ (.int .i64 t1)).setCell ⟨g6, 2, none⟩ (.int .i64 t2)).setCell ⟨g6, 3, none⟩ (.int .i64 t3)).setCell ⟨g6, 4, none⟩ (.int .i64 t4)).setCell ⟨g6, 5, none⟩ (.bool t5)).setCell ⟨g6, 6, none⟩ (.slice Av t6.length cv)) = W9 at HO9 HB9 ⊢
          clear HO6 HB6 HO3 HB3 d0 d1 d2 d3 d4 d5 d6 hf0 hf1 hf2 hf3 hf4 hf5 hf6 G6 NE
          obtain ⟨I, hI⟩ : ∃ I : Int, (i : Int) = I := ⟨_, rfl⟩
          obtain ⟨J, hJ⟩ : ∃ J : Int, J = ((i - 1 : Nat) : Int) := ⟨_, rfl⟩
          have hw1 : IntKind.i64.wrap (I - 1) = J := by rw [i64_w]; unfold wrap64; omega
          obtain ⟨pj, hpj⟩ : ∃ p, (namesS l0)[i - 1]'(by omega) = p := ⟨_, rfl⟩
          have hle := names_less l0 i h0 hlt
          rw [hpj, hp] at hle
          have q1' : (I < ((namesS l0).length : Int)) = True := eq_true (by omega)
          have q0' : (0 ≤ I) = True := eq_true (by omega)
          have z1 : decide ((0 : Int) < I) = true := decide_eq_true (by omega)
          have r0 : (0 ≤ J) = True := eq_true (by omega)
          have r1 : (J < ((namesS l0).length : Int)) = True := eq_true (by omega)
          obtain ⟨ad, had⟩ : ∃ ad : Addr, (⟨gn, 0, none⟩ : Addr) = ad := ⟨_, rfl⟩
          rw [had] at HO9
          obtain ⟨ad1, e1, yi⟩ := Kd.at_string (Kd.R_reads' HO9.out).2.2 I (by omega) (by omega)
          obtain ⟨ad2, e2, yj⟩ := Kd.at_string (Kd.R_reads' HO9.out).2.2 J (by omega) (by omega)
          cases e1
          cases e2
          rw [show rdOf ByteArray.empty (namesS l0) I = p by rw [← hI, rdOf_get _ i hlt, hp]] at yi
          rw [show rdOf ByteArray.empty (namesS l0) J = pj by rw [hJ, rdOf_get _ (i - 1) (by omega), hpj]] at yj
          clear hpj
          rw [had]
          rw [hI]
          have HI := Aside0.mk hI
          have HAD := Aside0.mk had
          clear hI hJ had
          go_quiet (fail)
          obtain rfl := HI.out
          obtain rfl := HAD.out
          go_wp2
          go_roundg ((namesS l0).length - (i + 1))
          case measure => omega
          case rel => exact ⟨i + 1, by omega, by omega, by go_num, ⟨by (with_reducible repeat (first | apply Kd.R_alloc | apply Kd.R_drewN | apply Kd.R_drew)); exact HO9.out⟩, ⟨by repeat (first | (with_reducible first | exact HB9.out | apply below_alloc | apply pw_below_drewN | apply below_drew1) | exact HB9.out)⟩⟩
      · have hz : decide ((i : Int) < ((namesS l0).length : Int)) = false := decide_eq_false (by omega)
        have hie : i = (namesS l0).length := by omega
        go_wp2
        clear hz hie hlt hi hg
        go_loopg [8] l0.length (fun gg s8 wr => ∃ j : Nat, j ≤ l0.length ∧ l0.length - j ≤ gg ∧ s8 = .int .i64 j ∧ Aside0 (Kd.R Kd.string 9 wr w.heap.size (fun _ => True) (.slice An (namesS l0).length cn) (namesS l0)) ∧ Aside0 (Below w.heap.size w wr))
        case atStart => exact ⟨0, by omega, by omega, rfl, ⟨HO.out⟩, ⟨HB.out⟩⟩
        case round =>
          clear HO HB
          obtain ⟨j, hj, hg, rfl, HO, HB⟩ := hrel
          by_cases hlt : j < l0.length
          · have hz : decide ((j : Int) < (l0.length : Int)) = true := decide_eq_true (by omega)
            obtain ⟨p, hp⟩ : ∃ p, (l0[j]).f0 = p := ⟨_, rfl⟩
            have hmem : ∃ x ∈ l0, x.f0 = p := ⟨l0[j], List.getElem_mem hlt, hp⟩
            have hall := inN_all l0 p hmem
            obtain ⟨⟨⟨t0, t1, t2, t3, t4, t5, t6⟩, tb⟩, ht⟩ : ∃ t, NewestS l0 p = t := ⟨_, rfl⟩
            have hE : listing_Newest.f 200 l0 p = some (t0, t1, t2, t3, t4, t5, t6, tb) := by rw [Newest_eq 200 l0 p (by omega) (by omega) hs, ht]; rfl
            rw [ht] at hall
            have hC := fun W (hC : Kd.C k28 W A0 l0.length l0) => listing_Newest.calls 200 A0 c0 l0 p t0 t1 t2 t3 t4 t5 t6 tb W hC HC0.out hE
            have hL := fun W (hC : Kd.C k28 W A0 l0.length l0) => at_T28 hC (j : Int) (by omega) (by omega)
            have hrd : rd_T28 l0 (j : Int) = l0[j] := rd_file l0 j hlt
            obtain ⟨ad, A6, c6, eA, x0, _⟩ := hL wr (Kd.C_below HR0.out HB.out)
            rw [hrd, hp, Int.toNat_natCast] at x0
            subst eA
            have q0 : (0 ≤ (j : Int)) = True := eq_true (by omega)
            have q1 : ((j : Int) < (l0.length : Int)) = True := eq_true (by omega)
            have HALL := Aside0.mk hall
            have HRD := Aside0.mk hrd
            have HP := Aside0.mk hp
            have HL := Aside0.mk hL
            clear ht hE hall hrd hmem hp hL
            go_wp2_with (first
              | (go_at_call 8; refine (hC _ (by apply Kd.C_below HR0.out; exact HB.out)).mono ?_; rintro e w3 ⟨v, rfl, ho, hb⟩; have HO3 := Aside0.mk (Kd.R_below HO.out hb); have HB3 := Aside0.mk (HB.out.trans (hb.mono HB.out.size)); obtain ⟨Av, cv, ev⟩ := Kd.R_slice ho; subst ev; clear ho hb hC HO)
              | ((with_reducible refine gate_dst (N := 9) rfl ?_); refine box_event ?hg (N := 9) ?hd (cs := #[.string (⟨#[]⟩ : ByteArray), .int .i64 0, .int .i64 0, .int .i64 0, .int .i64 0, .bool false, .slice none 0 0]) (t := 28) ?hr ?_; (case hd => rfl); (case hg => rfl); (case hr => first | (go_simp; done) | (go_simp; rfl)); intro g6 hg6 w6 hbox hb; have HO6 := Aside0.mk (Kd.R_below HO3.out hb); have HB6 := Aside0.mk (HB3.out.trans (hb.mono HB3.out.size)); have G6 := Aside0.mk (show w.heap.size ≤ g6 by rw [hg6]; exact HB3.out.size); have NE := Aside0.mk (show some g6 ≠ (Value.slice An (namesS l0).length cn).ownBlock by rw [hg6]; exact fun e => Nat.lt_irrefl _ (Kd.R_lt HO3.out _ e.symm)); obtain ⟨⟨d0, d1, d2, d3, d4, d5, d6⟩, hf⟩ := cells_file hbox; have hf0 := hf 0; have hf1 := hf 1; have hf2 := hf 2; have hf3 := hf 3; have hf4 := hf 4; have hf5 := hf 5; have hf6 := hf 6; clear hf hbox hb hg6 x0))
            have HO9 := Aside0.mk (show Kd.R Kd.string 9 (((((((w6.setCell ⟨g6, 0, none⟩ (.string t0)).setCell ⟨g6, 1, none⟩ (.int .i64 t1)).setCell ⟨g6, 2, none⟩ (.int .i64 t2)).setCell ⟨g6, 3, none⟩ (.int .i64 t3)).setCell ⟨g6, 4, none⟩ (.int .i64 t4)).setCell ⟨g6, 5, none⟩ (.bool t5)).setCell ⟨g6, 6, none⟩ (.slice Av t6.length cv)) w.heap.size (fun _ => True) (.slice An (namesS l0).length cn) (namesS l0) from R_put7 HO6.out NE.out _ _ _ _ _ _ _)
            have HB9 := Aside0.mk (show Below w.heap.size w (((((((w6.setCell ⟨g6, 0, none⟩ (.string t0)).setCell ⟨g6, 1, none⟩ (.int .i64 t1)).setCell ⟨g6, 2, none⟩ (.int .i64 t2)).setCell ⟨g6, 3, none⟩ (.int .i64 t3)).setCell ⟨g6, 4, none⟩ (.int .i64 t4)).setCell ⟨g6, 5, none⟩ (.bool t5)).setCell ⟨g6, 6, none⟩ (.slice Av t6.length cv)) by repeat (first | (with_reducible first | exact HB6.out | refine below_set ?_ G6.out) | exact HB6.out))
            generalize (((((((w6.setCell ⟨g6, 0, none⟩ (.string t0)).setCell ⟨g6, 1, none⟩ (.int .i64 t1)).setCell ⟨g6, 2, none⟩ (.int .i64 t2)).setCell ⟨g6, 3, none⟩ (.int .i64 t3)).setCell ⟨g6, 4, none⟩ (.int .i64 t4)).setCell ⟨g6, 5, none⟩ (.bool t5)).setCell ⟨g6, 6, none⟩ (.slice Av t6.length cv)) = W9 at HO9 HB9 ⊢
            clear HO6 HB6 HO3 HB3 d0 d1 d2 d3 d4 d5 d6 hf0 hf1 hf2 hf3 hf4 hf5 hf6 G6 NE
            go_loopg [11, 12] (namesS l0).length (fun gg s11 s12 wr => ∃ k : Nat, k ≤ (namesS l0).length ∧ (namesS l0).length - k ≤ gg ∧ s11 = .bool (inN (namesS l0) p k) ∧ s12 = .int .i64 k ∧ Aside0 (Kd.R Kd.string 9 wr w.heap.size (fun _ => True) (.slice An (namesS l0).length cn) (namesS l0)) ∧ Aside0 (Below w.heap.size w wr))
            case atStart => exact ⟨0, by omega, by omega, rfl, rfl, ⟨HO9.out⟩, ⟨HB9.out⟩⟩
            case round =>
              clear HO9 HB9
              obtain ⟨k, hk, hg2, rfl, rfl, HO, HB⟩ := hrel
              by_cases hlt2 : k < (namesS l0).length
              · have hz2 : decide ((k : Int) < ((namesS l0).length : Int)) = true := decide_eq_true (by omega)
                obtain ⟨adn, cc, ea⟩ := Kd.R_slice1 HO.out (by omega)
                injection ea with ea _ ec
                subst ea ec
                obtain ⟨gn, rfl⟩ := Kd.R_head HO.out
                have xi := (Kd.R_cell ByteArray.empty HO.out (k : Int) (by omega) (by omega)).1
                rw [Int.toNat_natCast, rdOf_get _ k hlt2] at xi
                obtain ⟨q, hq⟩ : ∃ q, (namesS l0)[k] = q := ⟨_, rfl⟩
                have hsu := inN_succ (namesS l0) p k hlt2
                rw [hq] at xi hsu
                obtain ⟨ad', A6', c6', eA', y0, _⟩ := HL.out _ (Kd.C_below HR0.out HB.out)
                cases eA'
                rw [HRD.out, HP.out, Int.toNat_natCast] at y0
                have q0k : (0 ≤ (k : Int)) = True := eq_true (by omega)
                have q1k : ((k : Int) < ((namesS l0).length : Int)) = True := eq_true (by omega)
                obtain ⟨b, hb⟩ : ∃ b, inN (namesS l0) p k = b := ⟨_, rfl⟩
                rw [hb] at hsu ⊢
                have HSU := Aside0.mk hsu
                clear hb hsu hq
                cases b with
                | true =>
                  clear xi y0
                  go_wp2
                  go_quiet (fail)
                  go_wp2
                  go_roundg ((namesS l0).length - (k + 1))
                  case measure => omega
                  case rel => exact ⟨k + 1, by omega, by omega, by rw [HSU.out]; rfl, by go_num, ⟨by (with_reducible repeat (first | apply Kd.R_alloc | apply Kd.R_drewN | apply Kd.R_drew)); exact HO.out⟩, ⟨by repeat (first | (with_reducible first | exact HB.out | apply below_alloc | apply pw_below_drewN | apply below_drew1) | exact HB.out)⟩⟩
                | false =>
                  go_wp2
                  go_quiet (fail)
                  go_wp2
                  go_roundg ((namesS l0).length - (k + 1))
                  case measure => omega
                  case rel => exact ⟨k + 1, by omega, by omega, by rw [HSU.out]; rfl, by go_num, ⟨by (with_reducible repeat (first | apply Kd.R_alloc | apply Kd.R_drewN | apply Kd.R_drew)); exact HO.out⟩, ⟨by repeat (first | (with_reducible first | exact HB.out | apply below_alloc | apply pw_below_drewN | apply below_drew1) | exact HB.out)⟩⟩
              · have hz2 : decide ((k : Int) < ((namesS l0).length : Int)) = false := decide_eq_false (by omega)
                obtain rfl : k = (namesS l0).length := by omega
                rw [HALL.out]
                go_wp2
                go_roundg (l0.length - (j + 1))
                case measure => omega
                case rel => exact ⟨j + 1, by omega, by omega, by go_num, ⟨by (with_reducible repeat (first | apply Kd.R_alloc | apply Kd.R_drewN | apply Kd.R_drew)); exact HO.out⟩, ⟨by repeat (first | (with_reducible first | exact HB.out | apply below_alloc | apply pw_below_drewN | apply below_drew1) | exact HB.out)⟩⟩
          · have hz : decide ((j : Int) < (l0.length : Int)) = false := decide_eq_false (by omega)
            go_wp2
            go_ret
            exact ⟨rfl, HB.out⟩
theorem listingNames_law (A0 : Option Addr) (c0 : Nat) (l0 : List File) (w : World) (hr0 : Kd.C k28 w A0 l0.length l0) (hc0 : l0.length ≤ c0) (hQ : l0.length * Try.prog.bytesOf 28 ≤ reachBytes ∧ ∀ x ∈ l0, (Lit.int .i64 x.f1).wf = true ∧ (Lit.int .i64 x.f4).wf = true ∧ small x) :
    Calls Try.prog 3 #[.slice A0 l0.length c0] w fun e w' => e = .returned (.bool true) ∧ Below w.heap.size w w' :=
  listingNames_walk A0 c0 l0 w hr0 hc0 (fun x hx => (hQ.2 x hx).2.2)

end Go.Proofs.Ytjmbedbapoofdaa.P
