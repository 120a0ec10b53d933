/- ListingTells: the law's own walk, each test's answer known ahead. -/
import Derived.Test.YtjmbedbapoofdaaPx0
import Derived.Test.YtjmbedbapoofdaaPx2
import Derived.Test.YtjmbedbapoofdaaPx3
import Derived.Test.YtjmbedbapoofdaaPx4
import Derived.Test.YtjmbedbapoofdaaPx5
import Derived.Test.YtjmbedbapoofdaaPx6
import Derived.Test.YtjmbedbapoofdaaMGet
import Derived.Test.YtjmbedbapoofdaaMListNamesWalk
import Derived.Test.YtjmbedbapoofdaaMListNextPure
import Derived.Test.YtjmbedbapoofdaaMListPure
import Derived.Test.YtjmbedbapoofdaaMRefListPure
import Derived.Test.YtjmbedbapoofdaaMRefNames
import Derived.Test.YtjmbedbapoofdaaMRefNamesPure
import Derived.Lib.Hide
import Derived.Laws.Cover1
import Derived.Deep.Cut
namespace Go.Proofs.Ytjmbedbapoofdaa.P
open Go.RowKit Go.Proofs.YtjmbedbapoofdaaW.PrintWords Go.Proofs.YtjmbedbapoofdaaW.PrintLast Go.Proofs.YtjmbedbapoofdaaW.PrintMore
set_option linter.unusedVariables false
set_option linter.unusedSimpArgs false

theorem put7 {w : World} {g : Nat} {T : TypeId} {a0 a1 a2 a3 a4 a5 a6 : Value} (h : w.heap[g]? = some (.cells #[a0, a1, a2, a3, a4, a5, a6] T (0, 0))) (u0 u1 u2 u3 u4 u5 u6 : Value) :
    (((((((w.setCell ⟨g, 0, none⟩ u0).setCell ⟨g, 1, none⟩ u1).setCell ⟨g, 2, none⟩ u2).setCell ⟨g, 3, none⟩ u3).setCell ⟨g, 4, none⟩ u4).setCell ⟨g, 5, none⟩ u5).setCell ⟨g, 6, none⟩ u6).heap[g]? = some (.cells #[u0, u1, u2, u3, u4, u5, u6] T (0, 0)) := by
  have h0 := blk_put h 0 u0 (cs' := #[u0, a1, a2, a3, a4, a5, a6]) rfl
  have h1 := blk_put h0 1 u1 (cs' := #[u0, u1, a2, a3, a4, a5, a6]) rfl
  have h2 := blk_put h1 2 u2 (cs' := #[u0, u1, u2, a3, a4, a5, a6]) rfl
  have h3 := blk_put h2 3 u3 (cs' := #[u0, u1, u2, u3, a4, a5, a6]) rfl
  have h4 := blk_put h3 4 u4 (cs' := #[u0, u1, u2, u3, u4, a5, a6]) rfl
  have h5 := blk_put h4 5 u5 (cs' := #[u0, u1, u2, u3, u4, u5, a6]) rfl
  exact blk_put h5 6 u6 rfl
theorem newest_mem (p : ByteArray) (l : List File) : ∀ s : File × Bool, (l.foldl (nwS p) s).1 = s.1 ∨ (l.foldl (nwS p) s).1 ∈ l := by
  induction l with
  | nil => exact fun s => .inl rfl
  | cons x l ih =>
    intro s
    rw [List.foldl_cons]
    rcases ih (nwS p s x) with h | h
    · rw [h]
      unfold nwS
      split
      · exact .inr (List.mem_cons_self ..)
      · exact .inl rfl
    · exact .inr (List.mem_cons_of_mem _ h)
theorem zFile_small : small zFile := by simp [small, zFile, z28]
theorem there_small {s : File × Bool} (h : small s.1) : small (thereS s).1 := by
  unfold thereS; split
  · exact h
  · exact zFile_small
theorem Newest_small (l : List File) (p : ByteArray) (hs : ∀ x ∈ l, small x) : small (NewestS l p).1 := by
  have key : small (newestS l p).1 := by
    rcases newest_mem p l (zFile, false) with h | h
    · have h' : (newestS l p).1 = zFile := h
      rw [h']; exact zFile_small
    · exact hs _ h
  exact there_small key
theorem Get_small (l : List File) (p : ByteArray) (v : Int) (hs : ∀ x ∈ l, small x) : small (GetS l p v).1 := by
  unfold GetS
  split
  · exact Newest_small l p hs
  · split
    · exact zFile_small
    · next x hx => exact there_small (hs x (List.mem_of_find?_eq_some hx))
set_option maxHeartbeats 40000000 in
set_option maxRecDepth 100000 in
theorem listingTells_walk (A0 : Option Addr) (c0 : Nat) (l0 : List File) (p : ByteArray) (v : Int) (w : World) (hr0 : Kd.C k28 w A0 l0.length l0) (hc0 : l0.length ≤ c0) (hs : ∀ x ∈ l0, small x) :
    Calls Try.prog 4 #[.slice A0 l0.length c0, .string p, .int .i64 v] w fun e w' => e = .returned (.bool true) ∧ Below w.heap.size w w' := by
  have hu := Try.underlying28
  have HR0 := Aside0.mk hr0
  have HC0 := Aside0.mk hc0
  have hal := fun W => cartridgelaw18_alive.calls 100 true W (alive18 100 (by omega))
  by_cases h40 : (l0.length : Int) > 40
  · have h40' : decide ((40 : Int) < (l0.length : Int)) = true := decide_eq_true h40
    clear hr0 hc0
    go_enter Try.func4, Try.ntmps4
    go_wp2_with (first | (go_at_call 6; refine (hal _).mono ?_; rintro e w1 ⟨rfl, hb⟩; have HB := Aside0.mk hb; clear hb))
    go_ret
    exact ⟨rfl, HB.out⟩
  · have h40' : decide ((40 : Int) < (l0.length : Int)) = false := decide_eq_false h40
    have hl : l0.length ≤ 40 := by omega
    have HV := Aside0.mk (fun (W : World) (hB : Below w.heap.size w W) => (Kd.V_mk hc0 (Kd.F_below (Kd.C_F k28_heap hr0) hB) : Kd.V k28 28 W W.heap.size (fun k_ => k_ < w.heap.size) (.slice A0 l0.length c0) l0))
    have HL := Aside0.mk (fun (W : World) (i : Nat) (hi : i < l0.length) (hC : Kd.C k28 W A0 l0.length l0) => at_T28 hC (i : Int) (by omega) (by omega))
    have hnl := names_len l0
    obtain ⟨⟨⟨t0, t1, t2, t3, t4, t5, t6⟩, tb⟩, ht⟩ : ∃ t, NewestS l0 p = t := ⟨_, rfl⟩
    obtain ⟨⟨⟨s0, s1, s2, s3, s4, s5, s6⟩, sb⟩, hg⟩ : ∃ t, GetS l0 p v = t := ⟨_, rfl⟩
    have E1 := Aside0.mk (show listing_Newest.f 200 l0 p = some (t0, t1, t2, t3, t4, t5, t6, tb) by rw [Newest_eq 200 l0 p (by omega) (by omega) hs, ht]; rfl)
    have E2 := Aside0.mk (show cartridgeref10_Newest.f 200 l0 p = some (t0, t1, t2, t3, t4, t5, t6, tb) by rw [refNewest_eq 200 l0 p (by omega) (by omega), ht]; rfl)
    have E3 := Aside0.mk (show listing_Get.f 200 l0 p v = some (s0, s1, s2, s3, s4, s5, s6, sb) by rw [Get_eq 200 l0 p v (by omega) (by omega) hs, hg]; rfl)
    have E4 := Aside0.mk (show cartridgeref10_GetFile.f 200 l0 p v = some (s0, s1, s2, s3, s4, s5, s6, sb) by rw [refGet_eq 200 l0 p v (by omega) (by omega), hg]; rfl)
    have st : t6.length ≤ 4611686018427387904 := by have := Newest_small l0 p hs; rw [ht] at this; simp only [small] at this; omega
    have ss : s6.length ≤ 4611686018427387904 := by have := Get_small l0 p v hs; rw [hg] at this; simp only [small] at this; omega
    have E5 := Aside0.mk (same_file (t6.length + 2) ⟨t0, t1, t2, t3, t4, t5, t6⟩ st (by simp))
    have E6 := Aside0.mk (same_file (s6.length + 2) ⟨s0, s1, s2, s3, s4, s5, s6⟩ ss (by simp))
    obtain ⟨nx, hnx⟩ : ∃ n, listing_Next.f 200 l0 p = some n := ⟨_, Next_eq 200 l0 p (by omega) (by omega)⟩
    have E7 := Aside0.mk hnx
    have E8 := Aside0.mk (show cartridgeref10_Next.f 200 l0 p = some nx by rw [refNext_eq 200 l0 p (by omega) (by omega), hnx])
    have E9 := Aside0.mk (Serial_eq 200 l0 (by omega) (by omega))
    have E10 := Aside0.mk (refSerial_eq 200 l0 (by omega) (by omega))
    have E11 := Aside0.mk (Names_eq 200 l0 (by omega) hs (by omega))
    have E12 := Aside0.mk (refNames_eq 200 l0 (by omega))
    have E13 := Aside0.mk (same_texts ((namesS l0).length + 1) (namesS l0) (by omega) (by omega))
    obtain ⟨sn, hsn⟩ : ∃ n, SerialS l0 = n := ⟨_, rfl⟩
    rw [hsn] at E9 E10
    clear ht hg hnx hsn st ss hs hr0 hc0
    generalize namesS l0 = N at hnl E11 E12 E13
    have tok1 : True := trivial
    go_enter Try.func4, Try.ntmps4
    go_wp2_with (first | (go_at_call 6; refine (hal _).mono ?_; rintro e w1 ⟨rfl, hb⟩; have HB := Aside0.mk hb; clear hb))
    go_loopg [8] l0.length (fun gg s8 wr => ∃ i : Nat, i ≤ l0.length ∧ l0.length - i ≤ gg ∧ s8 = .int .i64 i ∧ Aside0 (Below w.heap.size w wr))
    case atStart => exact ⟨0, by omega, by omega, rfl, ⟨HB.out⟩⟩
    case round =>
      clear HB
      obtain ⟨i, hi, hg, rfl, HB⟩ := hrel
      by_cases hlt : i < l0.length
      · have hz : decide ((i : Int) < (l0.length : Int)) = true := decide_eq_true (by omega)
        have hrd : rd_T28 l0 (i : Int) = l0[i] := rd_file l0 i hlt
        obtain ⟨ad, A6, c6, eA, x0, x1, x2, x3, x4, x5, x6, _⟩ := HL.out wr i hlt (Kd.C_below HR0.out HB.out)
        obtain ⟨⟨y0, y1, y2, y3, y4, y5, y6⟩, hy⟩ : ∃ y, l0[i] = y := ⟨_, rfl⟩
        rw [hrd, hy, Int.toNat_natCast] at x1 x4 x6
        simp only at x1 x4 x6
        subst eA
        have q0 : (0 ≤ (i : Int)) = True := eq_true (by omega)
        have q1 : ((i : Int) < (l0.length : Int)) = True := eq_true (by omega)
        clear hrd hy x0 x2 x3 x5 E1 E2 E3 E4 E5 E6 E7 E8 E9 E10 E11 E12 E13 tok1
        by_cases z1 : (20 : Int) < (y6.length : Int)
        · have z1' : decide ((20 : Int) < (y6.length : Int)) = true := decide_eq_true z1
          go_wp2
          go_ret
          exact ⟨rfl, HB.out⟩
        · have z1' : decide ((20 : Int) < (y6.length : Int)) = false := decide_eq_false z1
          by_cases z2 : (1099511627776 : Int) < y1
          · have z2' : decide ((1099511627776 : Int) < y1) = true := decide_eq_true z2
            go_wp2
            go_ret
            exact ⟨rfl, HB.out⟩
          · have z2' : decide ((1099511627776 : Int) < y1) = false := decide_eq_false z2
            by_cases z3 : (1099511627776 : Int) < y4
            · have z3' : decide ((1099511627776 : Int) < y4) = true := decide_eq_true z3
              go_wp2
              go_ret
              exact ⟨rfl, HB.out⟩
            · have z3' : decide ((1099511627776 : Int) < y4) = false := decide_eq_false z3
              go_wp2
              go_roundg (l0.length - (i + 1))
              case measure => omega
              case rel => exact ⟨i + 1, by omega, by omega, by go_num, ⟨HB.out⟩⟩
      · have hz : decide ((i : Int) < (l0.length : Int)) = false := decide_eq_false (by omega)
        clear hg hal
        go_wp2_with (first
          | (go_at_call 8; refine (listing_Newest.calls 200 A0 c0 l0 p t0 t1 t2 t3 t4 t5 t6 tb _ (by apply Kd.C_below HR0.out; exact HB.out) HC0.out E1.out).mono ?_; rintro e w3 ⟨v, rfl, hv, hb⟩; have HB3 := Aside0.mk (HB.out.trans (hb.mono HB.out.size)); obtain ⟨a1, c1_, ev⟩ := Kd.R_slice hv; subst ev; have HC1 := Aside0.mk (show t6.length ≤ c1_ ∧ Kd.C k47 w3 a1 t6.length t6 from (Kd.R_reads' hv).2); have HBB := Aside0.mk hb; clear hv hb)
          | ((with_reducible refine gate_dst (N := 9) rfl ?_); refine box_event ?hg (N := 9) ?hd (cs := #[.string (⟨#[]⟩ : ByteArray), .int .i64 0, .int .i64 0, .int .i64 0, .int .i64 0, .bool false, .slice none 0 0]) (t := 28) ?hr ?_; (case hd => rfl); (case hg => rfl); (case hr => first | (go_simp; done) | (go_simp; rfl)); intro g1 hg w6 hbox hb; have B6 := Aside0.mk hbox; have G6 := Aside0.mk (Nat.le_of_eq hg.symm); have HB6 := Aside0.mk hb; obtain ⟨⟨d0, d1, d2, d3, d4, d5, d6⟩, hf⟩ := cells_file hbox; have hf0 := hf 0; have hf1 := hf 1; have hf2 := hf 2; have hf3 := hf 3; have hf4 := hf 4; have hf5 := hf 5; have hf6 := hf 6; clear hf hbox hb hg))
        have HBS := Aside0.mk (show Below w3.heap.size w3 (((((((w6.setCell ⟨g1, 0, none⟩ (.string t0)).setCell ⟨g1, 1, none⟩ (.int .i64 t1)).setCell ⟨g1, 2, none⟩ (.int .i64 t2)).setCell ⟨g1, 3, none⟩ (.int .i64 t3)).setCell ⟨g1, 4, none⟩ (.int .i64 t4)).setCell ⟨g1, 5, none⟩ (.bool t5)).setCell ⟨g1, 6, none⟩ (.slice a1 t6.length c1_)) by repeat (first | (with_reducible first | exact HB6.out | refine below_set ?_ G6.out) | exact HB6.out))
        have BK1 := Aside0.mk (put7 B6.out (.string t0) (.int .i64 t1) (.int .i64 t2) (.int .i64 t3) (.int .i64 t4) (.bool t5) (.slice a1 t6.length c1_))
        generalize hU : (((((((w6.setCell ⟨g1, 0, none⟩ (.string t0)).setCell ⟨g1, 1, none⟩ (.int .i64 t1)).setCell ⟨g1, 2, none⟩ (.int .i64 t2)).setCell ⟨g1, 3, none⟩ (.int .i64 t3)).setCell ⟨g1, 4, none⟩ (.int .i64 t4)).setCell ⟨g1, 5, none⟩ (.bool t5)).setCell ⟨g1, 6, none⟩ (.slice a1 t6.length c1_)) = U1 at HBS BK1 ⊢
        clear hU d0 d1 d2 d3 d4 d5 d6 hf0 hf1 hf2 hf3 hf4 hf5 hf6 B6 G6 HB6
        have h_ := HB3.out.trans (HBS.out.mono HB3.out.size); clear HB; have HB := Aside0.mk h_; clear h_ HB3
        have HD := Aside0.mk (HBB.out.trans (HBS.out.mono HBB.out.size))
        have h_ := HC1.out; clear HC1; have HC1 := Aside0.mk (And.intro h_.1 (Kd.C_below h_.2 HBS.out)); clear h_ HBS HBB HD
        go_wp2_with (first
          | (go_at_call 9; refine (cartridgeref10_Newest.calls 200 _ A0 c0 l0 p t0 t1 t2 t3 t4 t5 t6 tb _ (by exact HV.out _ HB.out) E2.out).mono ?_; rintro e w3 ⟨v, rfl, hv, hb⟩; have HB3 := Aside0.mk (HB.out.trans (hb.mono HB.out.size)); obtain ⟨a2, c2_, ev⟩ := Kd.V_slice hv; subst ev; have HC2 := Aside0.mk (show t6.length ≤ c2_ ∧ Kd.C k47 w3 a2 t6.length t6 from ⟨(Kd.V_at hv).2.1, Kd.F_now (Kd.V_at hv).2.2⟩); have HBB := Aside0.mk hb; clear hv hb)
          | ((with_reducible refine gate_dst (N := 11) rfl ?_); refine box_event ?hg (N := 11) ?hd (cs := #[.string (⟨#[]⟩ : ByteArray), .int .i64 0, .int .i64 0, .int .i64 0, .int .i64 0, .bool false, .slice none 0 0]) (t := 28) ?hr ?_; (case hd => rfl); (case hg => rfl); (case hr => first | (go_simp; done) | (go_simp; rfl)); intro g2 hg w6 hbox hb; have B6 := Aside0.mk hbox; have G6 := Aside0.mk (Nat.le_of_eq hg.symm); have HB6 := Aside0.mk hb; obtain ⟨⟨d0, d1, d2, d3, d4, d5, d6⟩, hf⟩ := cells_file hbox; have hf0 := hf 0; have hf1 := hf 1; have hf2 := hf 2; have hf3 := hf 3; have hf4 := hf 4; have hf5 := hf 5; have hf6 := hf 6; clear hf hbox hb hg))
        have HBS := Aside0.mk (show Below w3.heap.size w3 (((((((w6.setCell ⟨g2, 0, none⟩ (.string t0)).setCell ⟨g2, 1, none⟩ (.int .i64 t1)).setCell ⟨g2, 2, none⟩ (.int .i64 t2)).setCell ⟨g2, 3, none⟩ (.int .i64 t3)).setCell ⟨g2, 4, none⟩ (.int .i64 t4)).setCell ⟨g2, 5, none⟩ (.bool t5)).setCell ⟨g2, 6, none⟩ (.slice a2 t6.length c2_)) by repeat (first | (with_reducible first | exact HB6.out | refine below_set ?_ G6.out) | exact HB6.out))
        have BK2 := Aside0.mk (put7 B6.out (.string t0) (.int .i64 t1) (.int .i64 t2) (.int .i64 t3) (.int .i64 t4) (.bool t5) (.slice a2 t6.length c2_))
        generalize hU : (((((((w6.setCell ⟨g2, 0, none⟩ (.string t0)).setCell ⟨g2, 1, none⟩ (.int .i64 t1)).setCell ⟨g2, 2, none⟩ (.int .i64 t2)).setCell ⟨g2, 3, none⟩ (.int .i64 t3)).setCell ⟨g2, 4, none⟩ (.int .i64 t4)).setCell ⟨g2, 5, none⟩ (.bool t5)).setCell ⟨g2, 6, none⟩ (.slice a2 t6.length c2_)) = U2 at HBS BK2 ⊢
        clear hU d0 d1 d2 d3 d4 d5 d6 hf0 hf1 hf2 hf3 hf4 hf5 hf6 B6 G6 HB6
        have h_ := HB3.out.trans (HBS.out.mono HB3.out.size); clear HB; have HB := Aside0.mk h_; clear h_ HB3
        have HD := Aside0.mk (HBB.out.trans (HBS.out.mono HBB.out.size))
        have h_ := HC1.out; clear HC1; have HC1 := Aside0.mk (And.intro h_.1 (Kd.C_below h_.2 HD.out)); clear h_
        have h_ := blk_below BK1.out HD.out; clear BK1; have BK1 := Aside0.mk h_; clear h_
        have h_ := HC2.out; clear HC2; have HC2 := Aside0.mk (And.intro h_.1 (Kd.C_below h_.2 HBS.out)); clear h_ HBS HBB HD
        go_wp2_with (first
          | (go_at_call 10; refine (listing_Get.calls 200 A0 c0 l0 p v s0 s1 s2 s3 s4 s5 s6 sb _ (by apply Kd.C_below HR0.out; exact HB.out) HC0.out E3.out).mono ?_; rintro e w3 ⟨v, rfl, hv, hb⟩; have HB3 := Aside0.mk (HB.out.trans (hb.mono HB.out.size)); obtain ⟨a3, c3_, ev⟩ := Kd.R_slice hv; subst ev; have HC3 := Aside0.mk (show s6.length ≤ c3_ ∧ Kd.C k47 w3 a3 s6.length s6 from (Kd.R_reads' hv).2); have HBB := Aside0.mk hb; clear hv hb)
          | ((with_reducible refine gate_dst (N := 13) rfl ?_); refine box_event ?hg (N := 13) ?hd (cs := #[.string (⟨#[]⟩ : ByteArray), .int .i64 0, .int .i64 0, .int .i64 0, .int .i64 0, .bool false, .slice none 0 0]) (t := 28) ?hr ?_; (case hd => rfl); (case hg => rfl); (case hr => first | (go_simp; done) | (go_simp; rfl)); intro g3 hg w6 hbox hb; have B6 := Aside0.mk hbox; have G6 := Aside0.mk (Nat.le_of_eq hg.symm); have HB6 := Aside0.mk hb; obtain ⟨⟨d0, d1, d2, d3, d4, d5, d6⟩, hf⟩ := cells_file hbox; have hf0 := hf 0; have hf1 := hf 1; have hf2 := hf 2; have hf3 := hf 3; have hf4 := hf 4; have hf5 := hf 5; have hf6 := hf 6; clear hf hbox hb hg))
        have HBS := Aside0.mk (show Below w3.heap.size w3 (((((((w6.setCell ⟨g3, 0, none⟩ (.string s0)).setCell ⟨g3, 1, none⟩ (.int .i64 s1)).setCell ⟨g3, 2, none⟩ (.int .i64 s2)).setCell ⟨g3, 3, none⟩ (.int .i64 s3)).setCell ⟨g3, 4, none⟩ (.int .i64 s4)).setCell ⟨g3, 5, none⟩ (.bool s5)).setCell ⟨g3, 6, none⟩ (.slice a3 s6.length c3_)) by repeat (first | (with_reducible first | exact HB6.out | refine below_set ?_ G6.out) | exact HB6.out))
        have BK3 := Aside0.mk (put7 B6.out (.string s0) (.int .i64 s1) (.int .i64 s2) (.int .i64 s3) (.int .i64 s4) (.bool s5) (.slice a3 s6.length c3_))
        generalize hU : (((((((w6.setCell ⟨g3, 0, none⟩ (.string s0)).setCell ⟨g3, 1, none⟩ (.int .i64 s1)).setCell ⟨g3, 2, none⟩ (.int .i64 s2)).setCell ⟨g3, 3, none⟩ (.int .i64 s3)).setCell ⟨g3, 4, none⟩ (.int .i64 s4)).setCell ⟨g3, 5, none⟩ (.bool s5)).setCell ⟨g3, 6, none⟩ (.slice a3 s6.length c3_)) = U3 at HBS BK3 ⊢
        clear hU d0 d1 d2 d3 d4 d5 d6 hf0 hf1 hf2 hf3 hf4 hf5 hf6 B6 G6 HB6
        have h_ := HB3.out.trans (HBS.out.mono HB3.out.size); clear HB; have HB := Aside0.mk h_; clear h_ HB3
        have HD := Aside0.mk (HBB.out.trans (HBS.out.mono HBB.out.size))
        have h_ := HC1.out; clear HC1; have HC1 := Aside0.mk (And.intro h_.1 (Kd.C_below h_.2 HD.out)); clear h_
        have h_ := blk_below BK1.out HD.out; clear BK1; have BK1 := Aside0.mk h_; clear h_
        have h_ := HC2.out; clear HC2; have HC2 := Aside0.mk (And.intro h_.1 (Kd.C_below h_.2 HD.out)); clear h_
        have h_ := blk_below BK2.out HD.out; clear BK2; have BK2 := Aside0.mk h_; clear h_
        have h_ := HC3.out; clear HC3; have HC3 := Aside0.mk (And.intro h_.1 (Kd.C_below h_.2 HBS.out)); clear h_ HBS HBB HD
        go_upto_region 13 with (first
          | (go_at_call 11; refine (cartridgeref10_GetFile.calls 200 _ A0 c0 l0 p v s0 s1 s2 s3 s4 s5 s6 sb _ (by exact HV.out _ HB.out) E4.out).mono ?_; rintro e w3 ⟨v, rfl, hv, hb⟩; have HB3 := Aside0.mk (HB.out.trans (hb.mono HB.out.size)); obtain ⟨a4, c4_, ev⟩ := Kd.V_slice hv; subst ev; have HC4 := Aside0.mk (show s6.length ≤ c4_ ∧ Kd.C k47 w3 a4 s6.length s6 from ⟨(Kd.V_at hv).2.1, Kd.F_now (Kd.V_at hv).2.2⟩); have HBB := Aside0.mk hb; clear hv hb)
          | ((with_reducible refine gate_dst (N := 15) rfl ?_); refine box_event ?hg (N := 15) ?hd (cs := #[.string (⟨#[]⟩ : ByteArray), .int .i64 0, .int .i64 0, .int .i64 0, .int .i64 0, .bool false, .slice none 0 0]) (t := 28) ?hr ?_; (case hd => rfl); (case hg => rfl); (case hr => first | (go_simp; done) | (go_simp; rfl)); intro g4 hg w6 hbox hb; have B6 := Aside0.mk hbox; have G6 := Aside0.mk (Nat.le_of_eq hg.symm); have HB6 := Aside0.mk hb; obtain ⟨⟨d0, d1, d2, d3, d4, d5, d6⟩, hf⟩ := cells_file hbox; have hf0 := hf 0; have hf1 := hf 1; have hf2 := hf 2; have hf3 := hf 3; have hf4 := hf 4; have hf5 := hf 5; have hf6 := hf 6; clear hf hbox hb hg))
        have HBS := Aside0.mk (show Below w3.heap.size w3 (((((((w6.setCell ⟨g4, 0, none⟩ (.string s0)).setCell ⟨g4, 1, none⟩ (.int .i64 s1)).setCell ⟨g4, 2, none⟩ (.int .i64 s2)).setCell ⟨g4, 3, none⟩ (.int .i64 s3)).setCell ⟨g4, 4, none⟩ (.int .i64 s4)).setCell ⟨g4, 5, none⟩ (.bool s5)).setCell ⟨g4, 6, none⟩ (.slice a4 s6.length c4_)) by repeat (first | (with_reducible first | exact HB6.out | refine below_set ?_ G6.out) | exact HB6.out))
        have BK4 := Aside0.mk (put7 B6.out (.string s0) (.int .i64 s1) (.int .i64 s2) (.int .i64 s3) (.int .i64 s4) (.bool s5) (.slice a4 s6.length c4_))
        generalize hU : (((((((w6.setCell ⟨g4, 0, none⟩ (.string s0)).setCell ⟨g4, 1, none⟩ (.int .i64 s1)).setCell ⟨g4, 2, none⟩ (.int .i64 s2)).setCell ⟨g4, 3, none⟩ (.int .i64 s3)).setCell ⟨g4, 4, none⟩ (.int .i64 s4)).setCell ⟨g4, 5, none⟩ (.bool s5)).setCell ⟨g4, 6, none⟩ (.slice a4 s6.length c4_)) = U4 at HBS BK4 ⊢
        clear hU d0 d1 d2 d3 d4 d5 d6 hf0 hf1 hf2 hf3 hf4 hf5 hf6 B6 G6 HB6
        have h_ := HB3.out.trans (HBS.out.mono HB3.out.size); clear HB; have HB := Aside0.mk h_; clear h_ HB3
        have HD := Aside0.mk (HBB.out.trans (HBS.out.mono HBB.out.size))
        have h_ := HC1.out; clear HC1; have HC1 := Aside0.mk (And.intro h_.1 (Kd.C_below h_.2 HD.out)); clear h_
        have h_ := blk_below BK1.out HD.out; clear BK1; have BK1 := Aside0.mk h_; clear h_
        have h_ := HC2.out; clear HC2; have HC2 := Aside0.mk (And.intro h_.1 (Kd.C_below h_.2 HD.out)); clear h_
        have h_ := blk_below BK2.out HD.out; clear BK2; have BK2 := Aside0.mk h_; clear h_
        have h_ := HC3.out; clear HC3; have HC3 := Aside0.mk (And.intro h_.1 (Kd.C_below h_.2 HD.out)); clear h_
        have h_ := blk_below BK3.out HD.out; clear BK3; have BK3 := Aside0.mk h_; clear h_
        have h_ := HC4.out; clear HC4; have HC4 := Aside0.mk (And.intro h_.1 (Kd.C_below h_.2 HBS.out)); clear h_ HBS HBB HD
        obtain ⟨⟨x10, x11, x12, x13, x14, x15, x16⟩, _⟩ := cells_file BK1.out
        obtain ⟨⟨x20, x21, x22, x23, x24, x25, x26⟩, _⟩ := cells_file BK2.out
        go_wp2_with (first
          | (go_at_call 12; have _t := tok1; clear tok1 _t; refine (cartridgeref10_SameFile.calls _ t0 t1 t2 t3 t4 t5 a1 c1_ t6 t0 t1 t2 t3 t4 t5 a2 c2_ t6 true U4 HC1.out.2 HC1.out.1 HC2.out.2 HC2.out.1 E5.out).mono ?_; rintro e w10 ⟨rfl, hb⟩; have HB10 := Aside0.mk (HB.out.trans (hb.mono HB.out.size)); have HC3' := Aside0.mk (And.intro HC3.out.1 (Kd.C_below HC3.out.2 hb)); have HC4' := Aside0.mk (And.intro HC4.out.1 (Kd.C_below HC4.out.2 hb)); have BK3' := Aside0.mk (blk_below BK3.out hb); have BK4' := Aside0.mk (blk_below BK4.out hb); clear hb HB HC1 HC2 HC3 HC4 BK1 BK2 BK3 BK4 x10 x11 x12 x13 x14 x15 x16 x20 x21 x22 x23 x24 x25 x26; obtain ⟨⟨x30, x31, x32, x33, x34, x35, x36⟩, _⟩ := cells_file BK3'.out; obtain ⟨⟨x40, x41, x42, x43, x44, x45, x46⟩, _⟩ := cells_file BK4'.out)
          | (go_at_call 12; refine (cartridgeref10_SameFile.calls _ s0 s1 s2 s3 s4 s5 a3 c3_ s6 s0 s1 s2 s3 s4 s5 a4 c4_ s6 true w10 HC3'.out.2 HC3'.out.1 HC4'.out.2 HC4'.out.1 E6.out).mono ?_; rintro e w11 ⟨rfl, hb⟩; have HB11 := Aside0.mk (HB10.out.trans (hb.mono HB10.out.size)); clear hb HB10 HC3' HC4' BK3' BK4' x30 x31 x32 x33 x34 x35 x36 x40 x41 x42 x43 x44 x45 x46)
          | (go_at_call 13; refine (listing_Next.calls 200 A0 c0 l0 p nx w11 (by apply Kd.C_below HR0.out; exact HB11.out) HC0.out E7.out).mono ?_; rintro e w12 ⟨rfl, hb⟩; have HB12 := Aside0.mk (HB11.out.trans (hb.mono HB11.out.size)); clear hb HB11)
          | (go_at_call 14; refine (cartridgeref10_Next.calls 200 A0 c0 l0 p nx w12 (by apply Kd.C_below HR0.out; exact HB12.out) HC0.out E8.out).mono ?_; rintro e w13 ⟨rfl, hd⟩; have HB13 := Aside0.mk (HB12.out.trans (hd.below.mono HB12.out.size)); clear hd HB12)
          | (go_at_call 15; refine (listing_Serial.calls 200 A0 c0 l0 sn w13 (by apply Kd.C_below HR0.out; exact HB13.out) HC0.out E9.out).mono ?_; rintro e w14 ⟨rfl, hb⟩; have HB14 := Aside0.mk (HB13.out.trans (hb.mono HB13.out.size)); clear hb HB13)
          | (go_at_call 16; refine (cartridgeref10_Serial.calls 200 A0 c0 l0 sn w14 (by apply Kd.C_below HR0.out; exact HB14.out) HC0.out E10.out).mono ?_; rintro e w15 ⟨rfl, hd⟩; have HB15 := Aside0.mk (HB14.out.trans (hd.below.mono HB14.out.size)); clear hd HB14)
          | (go_at_call 7; refine (listing_Names.calls 200 A0 c0 l0 N w15 (by apply Kd.C_below HR0.out; exact HB15.out) HC0.out E11.out).mono ?_; rintro e w16 ⟨v1, rfl, ho, hb⟩; have HO1 := Aside0.mk ho; have HD1 := Aside0.mk hb; obtain ⟨An, cn, en⟩ := Kd.R_slice ho; subst en; have HB16 := Aside0.mk (HB15.out.trans (hb.mono HB15.out.size)); clear hb ho HB15)
          | (go_at_call 18; refine (cartridgeref10_Names.calls 200 A0 c0 l0 N w16 (by apply Kd.C_below HR0.out; exact HB16.out) HC0.out E12.out).mono ?_; rintro e w17 ⟨v2, rfl, ho, hb⟩; have HO2 := Aside0.mk ho; have HO1' := Aside0.mk (Kd.R_below HO1.out hb); obtain ⟨Am, cm, em⟩ := Kd.R_slice ho; subst em; have HB17 := Aside0.mk (HB16.out.trans (hb.mono HB16.out.size)); clear hb ho HB16 HO1)
          | (go_at_call 17; refine (cartridgeref1_SameTexts.calls _ An cn N Am cm N true w17 (Kd.R_reads' HO1'.out).2.2 (Kd.R_reads' HO1'.out).2.1 (Kd.R_reads' HO2.out).2.2 (Kd.R_reads' HO2.out).2.1 E13.out).mono ?_; rintro e w18 ⟨rfl, hd⟩; have HB18 := Aside0.mk (HB17.out.trans (hd.below.mono HB17.out.size)); clear hd HB17 HO1' HO2))
        go_ret
        exact ⟨rfl, HB18.out⟩
theorem listingTells_law (A0 : Option Addr) (c0 : Nat) (l0 : List File) (w : World) (hr0 : Kd.C k28 w A0 l0.length l0) (hc0 : l0.length ≤ c0) (hQ : l0.length * Try.prog.bytesOf 28 ≤ reachBytes ∧ ∀ x ∈ l0, (Lit.int .i64 x.f1).wf = true ∧ (Lit.int .i64 x.f4).wf = true ∧ small x) (p : ByteArray) (v : Int) :
    Calls Try.prog 4 #[.slice A0 l0.length c0, .string p, .int .i64 v] w fun e w' => e = .returned (.bool true) ∧ Below w.heap.size w w' :=
  listingTells_walk A0 c0 l0 p v w hr0 hc0 (fun x hx => (hQ.2 x hx).2.2)

end Go.Proofs.Ytjmbedbapoofdaa.P
