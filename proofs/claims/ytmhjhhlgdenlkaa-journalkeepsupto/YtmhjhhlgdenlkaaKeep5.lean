/- What the proof stands on, part 5 of 5. -/
import Derived.IntWalk
import Derived.Test.YtmhjhhlgdenlkaaKeep1
import Derived.Test.YtmhjhhlgdenlkaaKeep2
import Derived.Test.YtmhjhhlgdenlkaaKeep3
import Derived.Test.YtmhjhhlgdenlkaaKeep4
namespace Go.Proofs.Ytmhjhhlgdenlkaa.P
open Go.RowKit Go.Proofs.YtmhjhhlgdenlkaaW.PrintWords Go.Proofs.YtmhjhhlgdenlkaaW.PrintLast Go.Proofs.YtmhjhhlgdenlkaaW.PrintMore
attribute [local go_sem] max2_int min2_int max_two min_two
set_option linter.unusedVariables false
set_option linter.unusedSimpArgs false
def journal_Append.f (k : Nat) (a0_0 : ByteArray) (a0_1 : ByteArray) (a0_2 : Int) (a1_0 : Int) (a1_1 : Int) (a1_2 : Int) (a1_3 : ByteArray) (a1_4 : ByteArray) (l1_5 : List (S80)) : Option (ByteArray × ByteArray × Int × Int) := (file_May.f a0_0 a0_1 a0_2).bind fun t188 => (if t188 = true then ((record_Bytes.f k a1_0 a1_1 a1_2 a1_3 a1_4 l1_5).bind fun bt189 => (if bt189.2 = 0 then ((file_Append.f a0_0 a0_1 a0_2 bt189.1).bind fun bt191 => (some (bt191.1, bt191.2.1, bt191.2.2.1, bt191.2.2.2))) else (some ((⟨#[]⟩ : ByteArray), (⟨#[]⟩ : ByteArray), 0, bt189.2)))) else (some ((⟨#[]⟩ : ByteArray), (⟨#[]⟩ : ByteArray), 0, 1)))
set_option maxHeartbeats 8000000 in
set_option maxRecDepth 100000 in
theorem journal_Append.calls (k : Nat) (a0_0 : ByteArray) (a0_1 : ByteArray) (a0_2 : Int) (a1_0 : Int) (a1_1 : Int) (a1_2 : Int) (a1_3 : ByteArray) (a1_4 : ByteArray) (A1_5 : Option Addr) (c1_5 : Nat) (l1_5 : List (S80)) (r1 : ByteArray) (r2 : ByteArray) (r3 : Int) (r4 : Int) (w : World) (hr1_5 : Kd.C k80 w A1_5 l1_5.length l1_5) (hc1_5 : l1_5.length ≤ c1_5) (h : journal_Append.f k a0_0 a0_1 a0_2 a1_0 a1_1 a1_2 a1_3 a1_4 l1_5 = some (r1, r2, r3, r4)) :
    Calls Try.prog 7 #[.agg #[.string a0_0, .string a0_1, .int .i64 a0_2], .agg #[.int .i64 a1_0, .int .i64 a1_1, .int .i64 a1_2, .string a1_3, .string a1_4, .slice A1_5 l1_5.length c1_5]] w fun e w' => e = .returned (.tuple #[.agg #[.string r1, .string r2, .int .i64 r3], .int .i64 r4]) ∧ Below w.heap.size w w' := by
  have hu30 := Try.underlying30
  have hu42 := Try.underlying42
  have HR1_5 := Aside0.mk hr1_5
  have HC1_5 := Aside0.mk hc1_5
  clear hr1_5 hc1_5
  have HB := Aside0.mk (Below.refl w.heap.size w)
  have H : ((file_May.f a0_0 a0_1 a0_2).bind fun t188 => (if t188 = true then ((record_Bytes.f k a1_0 a1_1 a1_2 a1_3 a1_4 l1_5).bind fun bt189 => (if bt189.2 = 0 then ((file_Append.f a0_0 a0_1 a0_2 bt189.1).bind fun bt191 => (some (bt191.1, bt191.2.1, bt191.2.2.1, bt191.2.2.2))) else (some ((⟨#[]⟩ : ByteArray), (⟨#[]⟩ : ByteArray), 0, bt189.2)))) else (some ((⟨#[]⟩ : ByteArray), (⟨#[]⟩ : ByteArray), 0, 1)))) = some (r1, r2, r3, r4) := h
  clear h
  replace H := Option.bind_eq_some_iff.mp H
  obtain ⟨t188, A30, H⟩ := H
  replace H : (if t188 = true then ((record_Bytes.f k a1_0 a1_1 a1_2 a1_3 a1_4 l1_5).bind fun bt189 => (if bt189.2 = 0 then ((file_Append.f a0_0 a0_1 a0_2 bt189.1).bind fun bt191 => (some (bt191.1, bt191.2.1, bt191.2.2.1, bt191.2.2.2))) else (some ((⟨#[]⟩ : ByteArray), (⟨#[]⟩ : ByteArray), 0, bt189.2)))) else (some ((⟨#[]⟩ : ByteArray), (⟨#[]⟩ : ByteArray), 0, 1))) = some (r1, r2, r3, r4) := H
  have A3 := Aside0.mk A30
  clear A30
  by_cases c4 : t188 = true
  · subst c4
    have H1 : ((record_Bytes.f k a1_0 a1_1 a1_2 a1_3 a1_4 l1_5).bind fun bt189 => (if bt189.2 = 0 then ((file_Append.f a0_0 a0_1 a0_2 bt189.1).bind fun bt191 => (some (bt191.1, bt191.2.1, bt191.2.2.1, bt191.2.2.2))) else (some ((⟨#[]⟩ : ByteArray), (⟨#[]⟩ : ByteArray), 0, bt189.2)))) = some (r1, r2, r3, r4) := by rw [if_pos rfl] at H; exact H
    clear H
    have H := H1
    clear H1
    replace H := Option.bind_eq_some_iff.mp H
    obtain ⟨⟨t189, t190⟩, A50, H⟩ := H
    replace H : (if t190 = 0 then ((file_Append.f a0_0 a0_1 a0_2 t189).bind fun bt191 => (some (bt191.1, bt191.2.1, bt191.2.2.1, bt191.2.2.2))) else (some ((⟨#[]⟩ : ByteArray), (⟨#[]⟩ : ByteArray), 0, t190))) = some (r1, r2, r3, r4) := H
    have A5 := Aside0.mk A50
    clear A50
    by_cases c6 : t190 = 0
    · rw [if_pos c6] at H
      have c6b0 : (t190 == 0) = true := beq_iff_eq.mpr c6
      have c6b1 : (t190 != 0) = false := bne_eq_false_iff_eq.mpr c6
      clear c6
      replace H := Option.bind_eq_some_iff.mp H
      obtain ⟨⟨t191, t192, t193, t194⟩, A70, H⟩ := H
      replace H : (some (t191, t192, t193, t194)) = some (r1, r2, r3, r4) := H
      have A7 := Aside0.mk A70
      clear A70
      simp only [Option.some.injEq, Prod.mk.injEq] at H
      obtain ⟨rfl, rfl, rfl, rfl⟩ := H
      go_enter Try.func7, Try.ntmps7
      go_wp2_with (first | ((with_reducible refine gate_dst (N := 2) rfl ?_); refine box_event ?hg (N := 2) ?hd (cs := #[.string a0_0, .string a0_1, .int .i64 a0_2]) (t := 30) ?hr ?_; (case hd => rfl); (case hg => rfl); (case hr => first | (go_simp; done) | (go_simp; rfl)); intro gb185 hg w8 hbox hb; have n0_ := Aside0.mk (below_step (by repeat (first | (with_reducible first | exact HB.out | apply below_alloc | apply pw_below_drewN | apply below_drew1) | exact HB.out)) hb); have n1_ := Aside0.mk (hbox); have n2_ := Aside0.mk ((by rw [hg]; exact (below_size (by repeat (first | (with_reducible first | exact HB.out | apply below_alloc | apply pw_below_drewN | apply below_drew1) | exact HB.out))) : w.heap.size ≤ gb185)); have n3_ := Aside0.mk ((by rw [hg]; exact (below_size (by repeat (first | (with_reducible first | exact HB.out | apply below_alloc | apply pw_below_drewN | apply below_drew1) | exact HB.out))) : w.heap.size ≤ gb185)); clear HB; have HB := n0_; have BK185 := n1_; have GW185 := n2_; have GE185 := n3_; clear n0_ n1_ n2_ n3_; clear hb hbox hg) | ((with_reducible refine gate_dst (N := 3) rfl ?_); refine box_event ?hg (N := 3) ?hd (cs := #[.int .i64 a1_0, .int .i64 a1_1, .int .i64 a1_2, .string a1_3, .string a1_4, .slice A1_5 l1_5.length c1_5]) (t := 42) ?hr ?_; (case hd => rfl); (case hg => rfl); (case hr => first | (go_simp; done) | (go_simp; rfl)); intro gb186 hg w9 hbox hb; have n0_ := Aside0.mk (blk_below (g := gb185) (o := .cells #[.string a0_0, .string a0_1, .int .i64 a0_2] 30 (0, 0)) (by (with_reducible repeat (first | refine blk_drewN ?_ _ | refine blk_drew ?_ | refine blk_alloc ?_ _)); exact BK185.out) hb); have n1_ := Aside0.mk (below_step (by repeat (first | (with_reducible first | exact HB.out | apply below_alloc | apply pw_below_drewN | apply below_drew1 | refine below_set ?_ GE185.out) | exact HB.out)) hb); have n2_ := Aside0.mk (hbox); have n3_ := Aside0.mk ((by rw [hg]; exact (below_size (by repeat (first | (with_reducible first | exact HB.out | apply below_alloc | apply pw_below_drewN | apply below_drew1 | refine below_set ?_ GE185.out) | exact HB.out))) : w.heap.size ≤ gb186)); have n4_ := Aside0.mk ((by rw [hg]; exact (below_size (by repeat (first | (with_reducible first | exact HB.out | apply below_alloc | apply pw_below_drewN | apply below_drew1 | refine below_set ?_ GE185.out) | exact HB.out))) : w.heap.size ≤ gb186)); have n5_ := Aside0.mk ((by rw [hg]; exact Nat.ne_of_lt (blk_lt (g := gb185) (o := .cells #[.string a0_0, .string a0_1, .int .i64 a0_2] 30 (0, 0)) (by (with_reducible repeat (first | refine blk_drewN ?_ _ | refine blk_drew ?_ | refine blk_alloc ?_ _)); exact BK185.out)) : gb185 ≠ gb186)); have n6_ := Aside0.mk ((by rw [hg]; exact Nat.ne_of_gt (blk_lt (g := gb185) (o := .cells #[.string a0_0, .string a0_1, .int .i64 a0_2] 30 (0, 0)) (by (with_reducible repeat (first | refine blk_drewN ?_ _ | refine blk_drew ?_ | refine blk_alloc ?_ _)); exact BK185.out)) : gb186 ≠ gb185)); clear BK185; clear HB; have BK185 := n0_; have HB := n1_; have BK186 := n2_; have GW186 := n3_; have GE186 := n4_; have NB185_186 := n5_; have NB186_185 := n6_; clear n0_ n1_ n2_ n3_ n4_ n5_ n6_; clear hb hbox hg) | ((with_reducible refine gate_dst (N := 4) rfl ?_); refine box_event ?hg (N := 4) ?hd (cs := #[.string (⟨#[]⟩ : ByteArray), .string (⟨#[]⟩ : ByteArray), .int .i64 0]) (t := 30) ?hr ?_; (case hd => rfl); (case hg => rfl); (case hr => first | (go_simp; done) | (go_simp; rfl)); intro gb187 hg w10 hbox hb; have n0_ := Aside0.mk (blk_below (g := gb185) (o := .cells #[.string a0_0, .string a0_1, .int .i64 a0_2] 30 (0, 0)) (by (with_reducible repeat (first | refine blk_drewN ?_ _ | refine blk_drew ?_ | refine blk_alloc ?_ _)); exact BK185.out) hb); have n1_ := Aside0.mk (blk_below (g := gb186) (o := .cells #[.int .i64 a1_0, .int .i64 a1_1, .int .i64 a1_2, .string a1_3, .string a1_4, .slice A1_5 l1_5.length c1_5] 42 (0, 0)) (by (with_reducible repeat (first | refine blk_drewN ?_ _ | refine blk_drew ?_ | refine blk_alloc ?_ _)); exact BK186.out) hb); have n2_ := Aside0.mk (below_step (by repeat (first | (with_reducible first | exact HB.out | apply below_alloc | apply pw_below_drewN | apply below_drew1 | refine below_set ?_ GE185.out | refine below_set ?_ GE186.out) | exact HB.out)) hb); have n3_ := Aside0.mk (hbox); have n4_ := Aside0.mk ((by rw [hg]; exact (below_size (by repeat (first | (with_reducible first | exact HB.out | apply below_alloc | apply pw_below_drewN | apply below_drew1 | refine below_set ?_ GE185.out | refine below_set ?_ GE186.out) | exact HB.out))) : w.heap.size ≤ gb187)); have n5_ := Aside0.mk ((by rw [hg]; exact (below_size (by repeat (first | (with_reducible first | exact HB.out | apply below_alloc | apply pw_below_drewN | apply below_drew1 | refine below_set ?_ GE185.out | refine below_set ?_ GE186.out) | exact HB.out))) : w.heap.size ≤ gb187)); have n6_ := Aside0.mk ((by rw [hg]; exact Nat.ne_of_lt (blk_lt (g := gb185) (o := .cells #[.string a0_0, .string a0_1, .int .i64 a0_2] 30 (0, 0)) (by (with_reducible repeat (first | refine blk_drewN ?_ _ | refine blk_drew ?_ | refine blk_alloc ?_ _)); exact BK185.out)) : gb185 ≠ gb187)); have n7_ := Aside0.mk ((by rw [hg]; exact Nat.ne_of_gt (blk_lt (g := gb185) (o := .cells #[.string a0_0, .string a0_1, .int .i64 a0_2] 30 (0, 0)) (by (with_reducible repeat (first | refine blk_drewN ?_ _ | refine blk_drew ?_ | refine blk_alloc ?_ _)); exact BK185.out)) : gb187 ≠ gb185)); have n8_ := Aside0.mk ((by rw [hg]; exact Nat.ne_of_lt (blk_lt (g := gb186) (o := .cells #[.int .i64 a1_0, .int .i64 a1_1, .int .i64 a1_2, .string a1_3, .string a1_4, .slice A1_5 l1_5.length c1_5] 42 (0, 0)) (by (with_reducible repeat (first | refine blk_drewN ?_ _ | refine blk_drew ?_ | refine blk_alloc ?_ _)); exact BK186.out)) : gb186 ≠ gb187)); have n9_ := Aside0.mk ((by rw [hg]; exact Nat.ne_of_gt (blk_lt (g := gb186) (o := .cells #[.int .i64 a1_0, .int .i64 a1_1, .int .i64 a1_2, .string a1_3, .string a1_4, .slice A1_5 l1_5.length c1_5] 42 (0, 0)) (by (with_reducible repeat (first | refine blk_drewN ?_ _ | refine blk_drew ?_ | refine blk_alloc ?_ _)); exact BK186.out)) : gb187 ≠ gb186)); clear BK185; clear BK186; clear HB; have BK185 := n0_; have BK186 := n1_; have HB := n2_; have BK187 := n3_; have GW187 := n4_; have GE187 := n5_; have NB185_187 := n6_; have NB187_185 := n7_; have NB186_187 := n8_; have NB187_186 := n9_; clear n0_ n1_ n2_ n3_ n4_ n5_ n6_ n7_ n8_ n9_; clear hb hbox hg; have hnb11 := NB185_186.out; have hnc11 := NB186_185.out; have hnb12 := NB185_187.out; have hnc12 := NB187_185.out; have hcz13_0 : w10.cell? ⟨gb185, 0, none⟩ = some (.string a0_0) := (blk_cell BK185.out 0).trans rfl; have hcz13_1 : w10.cell? ⟨gb185, 1, none⟩ = some (.string a0_1) := (blk_cell BK185.out 1).trans rfl; have hcz13_2 : w10.cell? ⟨gb185, 2, none⟩ = some (.int .i64 a0_2) := (blk_cell BK185.out 2).trans rfl; have hfz13_0 := blk_frozen BK185.out 0; have hfz13_1 := blk_frozen BK185.out 1; have hfz13_2 := blk_frozen BK185.out 2) | ((with_reducible refine gate_callee (f := 21) rfl ?_); refine goesL_ (some 9) rfl rfl Try.func21 (by kernel_rfl) rfl #[.agg #[.string a0_0, .string a0_1, .int .i64 a0_2]] rfl (by (try simp only [List.map_toArray, List.map_cons, List.map_nil]); first | done | rfl | (simp only [List.length_drop, List.length_take]; rfl)) ?_; (with_reducible refine (file_May.calls a0_0 a0_1 a0_2 true _ A3.out).mono ?_); rintro e w14 ⟨rfl, hb⟩; refine ⟨_, rfl, ?_⟩; have n0_ := Aside0.mk (blk_below (g := gb185) (o := .cells #[.string a0_0, .string a0_1, .int .i64 a0_2] 30 (0, 0)) (by (with_reducible repeat (first | refine blk_drewN ?_ _ | refine blk_drew ?_ | refine blk_alloc ?_ _)); exact BK185.out) hb); have n1_ := Aside0.mk (blk_below (g := gb186) (o := .cells #[.int .i64 a1_0, .int .i64 a1_1, .int .i64 a1_2, .string a1_3, .string a1_4, .slice A1_5 l1_5.length c1_5] 42 (0, 0)) (by (with_reducible repeat (first | refine blk_drewN ?_ _ | refine blk_drew ?_ | refine blk_alloc ?_ _)); exact BK186.out) hb); have n2_ := Aside0.mk (blk_below (g := gb187) (o := .cells #[.string (⟨#[]⟩ : ByteArray), .string (⟨#[]⟩ : ByteArray), .int .i64 0] 30 (0, 0)) (by (with_reducible repeat (first | refine blk_drewN ?_ _ | refine blk_drew ?_ | refine blk_alloc ?_ _)); exact BK187.out) hb); have n3_ := Aside0.mk (below_step (by repeat (first | (with_reducible first | exact HB.out | apply below_alloc | apply pw_below_drewN | apply below_drew1 | refine below_set ?_ GE185.out | refine below_set ?_ GE186.out | refine below_set ?_ GE187.out) | exact HB.out)) hb); clear BK185; clear BK186; clear BK187; clear HB; have BK185 := n0_; have BK186 := n1_; have BK187 := n2_; have HB := n3_; clear n0_ n1_ n2_ n3_; (try clear hb); (try clear hb2); (try clear hk); (try clear hi); have hnb15 := NB186_187.out; have hnc15 := NB187_186.out; have hcz16_0 : w14.cell? ⟨gb186, 0, none⟩ = some (.int .i64 a1_0) := (blk_cell BK186.out 0).trans rfl; have hcz16_1 : w14.cell? ⟨gb186, 1, none⟩ = some (.int .i64 a1_1) := (blk_cell BK186.out 1).trans rfl; have hcz16_2 : w14.cell? ⟨gb186, 2, none⟩ = some (.int .i64 a1_2) := (blk_cell BK186.out 2).trans rfl; have hcz16_3 : w14.cell? ⟨gb186, 3, none⟩ = some (.string a1_3) := (blk_cell BK186.out 3).trans rfl; have hcz16_4 : w14.cell? ⟨gb186, 4, none⟩ = some (.string a1_4) := (blk_cell BK186.out 4).trans rfl; have hcz16_5 : w14.cell? ⟨gb186, 5, none⟩ = some (.slice A1_5 l1_5.length c1_5) := (blk_cell BK186.out 5).trans rfl; have hfz16_0 := blk_frozen BK186.out 0; have hfz16_1 := blk_frozen BK186.out 1; have hfz16_2 := blk_frozen BK186.out 2; have hfz16_3 := blk_frozen BK186.out 3; have hfz16_4 := blk_frozen BK186.out 4; have hfz16_5 := blk_frozen BK186.out 5) | ((with_reducible refine gate_callee (f := 22) rfl ?_); refine goesL_ (some 14) rfl rfl Try.func22 (by kernel_rfl) rfl #[.agg #[.int .i64 a1_0, .int .i64 a1_1, .int .i64 a1_2, .string a1_3, .string a1_4, .slice A1_5 l1_5.length c1_5]] rfl (by (try simp only [List.map_toArray, List.map_cons, List.map_nil]); first | done | rfl | (simp only [List.length_drop, List.length_take]; rfl)) ?_; (with_reducible refine (record_Bytes.calls k a1_0 a1_1 a1_2 a1_3 a1_4 _ _ l1_5 t189 t190 _ ?side1 ?side2 A5.out).mono ?_); (case side1 => repeat (first | exact (Kd.C_below HR1_5.out HB.out) | (with_reducible refine Kd.C_alloc ?_ _) | (with_reducible refine Kd.C_drewN ?_ _) | (with_reducible refine Kd.C_drew ?_))); (case side2 => exact HC1_5.out); rintro e w17 ⟨rfl, hb⟩; refine ⟨_, rfl, ?_⟩; have n0_ := Aside0.mk (blk_below (g := gb185) (o := .cells #[.string a0_0, .string a0_1, .int .i64 a0_2] 30 (0, 0)) (by (with_reducible repeat (first | refine blk_drewN ?_ _ | refine blk_drew ?_ | refine blk_alloc ?_ _)); exact BK185.out) hb); have n1_ := Aside0.mk (blk_below (g := gb186) (o := .cells #[.int .i64 a1_0, .int .i64 a1_1, .int .i64 a1_2, .string a1_3, .string a1_4, .slice A1_5 l1_5.length c1_5] 42 (0, 0)) (by (with_reducible repeat (first | refine blk_drewN ?_ _ | refine blk_drew ?_ | refine blk_alloc ?_ _)); exact BK186.out) hb); have n2_ := Aside0.mk (blk_below (g := gb187) (o := .cells #[.string (⟨#[]⟩ : ByteArray), .string (⟨#[]⟩ : ByteArray), .int .i64 0] 30 (0, 0)) (by (with_reducible repeat (first | refine blk_drewN ?_ _ | refine blk_drew ?_ | refine blk_alloc ?_ _)); exact BK187.out) hb); have n3_ := Aside0.mk (below_step (by repeat (first | (with_reducible first | exact HB.out | apply below_alloc | apply pw_below_drewN | apply below_drew1 | refine below_set ?_ GE185.out | refine below_set ?_ GE186.out | refine below_set ?_ GE187.out) | exact HB.out)) hb); clear BK185; clear BK186; clear BK187; clear HB; have BK185 := n0_; have BK186 := n1_; have BK187 := n2_; have HB := n3_; clear n0_ n1_ n2_ n3_; (try clear hb); (try clear hb2); (try clear hk); (try clear hi); have hcz18_0 : w17.cell? ⟨gb185, 0, none⟩ = some (.string a0_0) := (blk_cell BK185.out 0).trans rfl; have hcz18_1 : w17.cell? ⟨gb185, 1, none⟩ = some (.string a0_1) := (blk_cell BK185.out 1).trans rfl; have hcz18_2 : w17.cell? ⟨gb185, 2, none⟩ = some (.int .i64 a0_2) := (blk_cell BK185.out 2).trans rfl; have hfz18_0 := blk_frozen BK185.out 0; have hfz18_1 := blk_frozen BK185.out 1; have hfz18_2 := blk_frozen BK185.out 2) | ((with_reducible refine gate_callee (f := 23) rfl ?_); refine goesL_ (some 23) rfl rfl Try.func23 (by kernel_rfl) rfl #[.agg #[.string a0_0, .string a0_1, .int .i64 a0_2], .string t189] rfl (by (try simp only [List.map_toArray, List.map_cons, List.map_nil]); first | done | rfl | (simp only [List.length_drop, List.length_take]; rfl)) ?_; (with_reducible refine (file_Append.calls a0_0 a0_1 a0_2 t189 t191 t192 t193 t194 _ A7.out).mono ?_); rintro e w19 ⟨rfl, hb⟩; refine ⟨_, rfl, ?_⟩; have n0_ := Aside0.mk (blk_below (g := gb185) (o := .cells #[.string a0_0, .string a0_1, .int .i64 a0_2] 30 (0, 0)) (by (with_reducible repeat (first | refine blk_drewN ?_ _ | refine blk_drew ?_ | refine blk_alloc ?_ _)); exact BK185.out) hb); have n1_ := Aside0.mk (blk_below (g := gb186) (o := .cells #[.int .i64 a1_0, .int .i64 a1_1, .int .i64 a1_2, .string a1_3, .string a1_4, .slice A1_5 l1_5.length c1_5] 42 (0, 0)) (by (with_reducible repeat (first | refine blk_drewN ?_ _ | refine blk_drew ?_ | refine blk_alloc ?_ _)); exact BK186.out) hb); have n2_ := Aside0.mk (blk_below (g := gb187) (o := .cells #[.string (⟨#[]⟩ : ByteArray), .string (⟨#[]⟩ : ByteArray), .int .i64 0] 30 (0, 0)) (by (with_reducible repeat (first | refine blk_drewN ?_ _ | refine blk_drew ?_ | refine blk_alloc ?_ _)); exact BK187.out) hb); have n3_ := Aside0.mk (below_step (by repeat (first | (with_reducible first | exact HB.out | apply below_alloc | apply pw_below_drewN | apply below_drew1 | refine below_set ?_ GE185.out | refine below_set ?_ GE186.out | refine below_set ?_ GE187.out) | exact HB.out)) hb); clear BK185; clear BK186; clear BK187; clear HB; have BK185 := n0_; have BK186 := n1_; have BK187 := n2_; have HB := n3_; clear n0_ n1_ n2_ n3_; (try clear hb); (try clear hb2); (try clear hk); (try clear hi); have hcz20_0 : w19.cell? ⟨gb187, 0, none⟩ = some (.string (⟨#[]⟩ : ByteArray)) := (blk_cell BK187.out 0).trans rfl; have hcz20_1 : w19.cell? ⟨gb187, 1, none⟩ = some (.string (⟨#[]⟩ : ByteArray)) := (blk_cell BK187.out 1).trans rfl; have hcz20_2 : w19.cell? ⟨gb187, 2, none⟩ = some (.int .i64 0) := (blk_cell BK187.out 2).trans rfl; have hfz20_0 := blk_frozen BK187.out 0; have hfz20_1 := blk_frozen BK187.out 1; have hfz20_2 := blk_frozen BK187.out 2))
      refine bodyPost_ret (results_ct rfl _ _ gb187 30 #[.string t191, .string t192, .int .i64 t193] (0, 0) _ rfl (by (with_reducible repeat (first | refine blk_drewN ?_ _ | refine blk_drew ?_ | refine blk_alloc ?_ _)); refine blk_put (cs := #[.string t191, .string t192, .int .i64 0]) ?_ 2 _ rfl; (with_reducible repeat (first | refine blk_drewN ?_ _ | refine blk_drew ?_ | refine blk_alloc ?_ _)); refine blk_put (cs := #[.string t191, .string (⟨#[]⟩ : ByteArray), .int .i64 0]) ?_ 1 _ rfl; (with_reducible repeat (first | refine blk_drewN ?_ _ | refine blk_drew ?_ | refine blk_alloc ?_ _)); refine blk_put (cs := #[.string (⟨#[]⟩ : ByteArray), .string (⟨#[]⟩ : ByteArray), .int .i64 0]) ?_ 0 _ rfl; (with_reducible repeat (first | refine blk_drewN ?_ _ | refine blk_drew ?_ | refine blk_alloc ?_ _)); exact BK187.out) Try.underlying30 rfl (by kernel_rfl)) rfl ?_
      exact ⟨by first | rfl | (simp [errW_none, errW_some] <;> rfl) | (simp [*, errW_none, errW_some] <;> rfl), by repeat (first | (with_reducible first | exact HB.out | apply below_alloc | apply pw_below_drewN | apply below_drew1 | refine below_set ?_ GE185.out | refine below_set ?_ GE186.out | refine below_set ?_ GE187.out) | exact HB.out)⟩
    · rw [if_neg c6] at H
      have c6b0 : (t190 == 0) = false := beq_eq_false_iff_ne.mpr c6
      have c6b1 : (t190 != 0) = true := bne_iff_ne.mpr c6
      simp only [Option.some.injEq, Prod.mk.injEq] at H
      obtain ⟨rfl, rfl, rfl, rfl⟩ := H
      go_enter Try.func7, Try.ntmps7
      go_wp2_with (first | ((with_reducible refine gate_dst (N := 2) rfl ?_); refine box_event ?hg (N := 2) ?hd (cs := #[.string a0_0, .string a0_1, .int .i64 a0_2]) (t := 30) ?hr ?_; (case hd => rfl); (case hg => rfl); (case hr => first | (go_simp; done) | (go_simp; rfl)); intro gb185 hg w21 hbox hb; have n0_ := Aside0.mk (below_step (by repeat (first | (with_reducible first | exact HB.out | apply below_alloc | apply pw_below_drewN | apply below_drew1) | exact HB.out)) hb); have n1_ := Aside0.mk (hbox); have n2_ := Aside0.mk ((by rw [hg]; exact (below_size (by repeat (first | (with_reducible first | exact HB.out | apply below_alloc | apply pw_below_drewN | apply below_drew1) | exact HB.out))) : w.heap.size ≤ gb185)); have n3_ := Aside0.mk ((by rw [hg]; exact (below_size (by repeat (first | (with_reducible first | exact HB.out | apply below_alloc | apply pw_below_drewN | apply below_drew1) | exact HB.out))) : w.heap.size ≤ gb185)); clear HB; have HB := n0_; have BK185 := n1_; have GW185 := n2_; have GE185 := n3_; clear n0_ n1_ n2_ n3_; clear hb hbox hg) | ((with_reducible refine gate_dst (N := 3) rfl ?_); refine box_event ?hg (N := 3) ?hd (cs := #[.int .i64 a1_0, .int .i64 a1_1, .int .i64 a1_2, .string a1_3, .string a1_4, .slice A1_5 l1_5.length c1_5]) (t := 42) ?hr ?_; (case hd => rfl); (case hg => rfl); (case hr => first | (go_simp; done) | (go_simp; rfl)); intro gb186 hg w22 hbox hb; have n0_ := Aside0.mk (blk_below (g := gb185) (o := .cells #[.string a0_0, .string a0_1, .int .i64 a0_2] 30 (0, 0)) (by (with_reducible repeat (first | refine blk_drewN ?_ _ | refine blk_drew ?_ | refine blk_alloc ?_ _)); exact BK185.out) hb); have n1_ := Aside0.mk (below_step (by repeat (first | (with_reducible first | exact HB.out | apply below_alloc | apply pw_below_drewN | apply below_drew1 | refine below_set ?_ GE185.out) | exact HB.out)) hb); have n2_ := Aside0.mk (hbox); have n3_ := Aside0.mk ((by rw [hg]; exact (below_size (by repeat (first | (with_reducible first | exact HB.out | apply below_alloc | apply pw_below_drewN | apply below_drew1 | refine below_set ?_ GE185.out) | exact HB.out))) : w.heap.size ≤ gb186)); have n4_ := Aside0.mk ((by rw [hg]; exact (below_size (by repeat (first | (with_reducible first | exact HB.out | apply below_alloc | apply pw_below_drewN | apply below_drew1 | refine below_set ?_ GE185.out) | exact HB.out))) : w.heap.size ≤ gb186)); have n5_ := Aside0.mk ((by rw [hg]; exact Nat.ne_of_lt (blk_lt (g := gb185) (o := .cells #[.string a0_0, .string a0_1, .int .i64 a0_2] 30 (0, 0)) (by (with_reducible repeat (first | refine blk_drewN ?_ _ | refine blk_drew ?_ | refine blk_alloc ?_ _)); exact BK185.out)) : gb185 ≠ gb186)); have n6_ := Aside0.mk ((by rw [hg]; exact Nat.ne_of_gt (blk_lt (g := gb185) (o := .cells #[.string a0_0, .string a0_1, .int .i64 a0_2] 30 (0, 0)) (by (with_reducible repeat (first | refine blk_drewN ?_ _ | refine blk_drew ?_ | refine blk_alloc ?_ _)); exact BK185.out)) : gb186 ≠ gb185)); clear BK185; clear HB; have BK185 := n0_; have HB := n1_; have BK186 := n2_; have GW186 := n3_; have GE186 := n4_; have NB185_186 := n5_; have NB186_185 := n6_; clear n0_ n1_ n2_ n3_ n4_ n5_ n6_; clear hb hbox hg) | ((with_reducible refine gate_dst (N := 4) rfl ?_); refine box_event ?hg (N := 4) ?hd (cs := #[.string (⟨#[]⟩ : ByteArray), .string (⟨#[]⟩ : ByteArray), .int .i64 0]) (t := 30) ?hr ?_; (case hd => rfl); (case hg => rfl); (case hr => first | (go_simp; done) | (go_simp; rfl)); intro gb187 hg w23 hbox hb; have n0_ := Aside0.mk (blk_below (g := gb185) (o := .cells #[.string a0_0, .string a0_1, .int .i64 a0_2] 30 (0, 0)) (by (with_reducible repeat (first | refine blk_drewN ?_ _ | refine blk_drew ?_ | refine blk_alloc ?_ _)); exact BK185.out) hb); have n1_ := Aside0.mk (blk_below (g := gb186) (o := .cells #[.int .i64 a1_0, .int .i64 a1_1, .int .i64 a1_2, .string a1_3, .string a1_4, .slice A1_5 l1_5.length c1_5] 42 (0, 0)) (by (with_reducible repeat (first | refine blk_drewN ?_ _ | refine blk_drew ?_ | refine blk_alloc ?_ _)); exact BK186.out) hb); have n2_ := Aside0.mk (below_step (by repeat (first | (with_reducible first | exact HB.out | apply below_alloc | apply pw_below_drewN | apply below_drew1 | refine below_set ?_ GE185.out | refine below_set ?_ GE186.out) | exact HB.out)) hb); have n3_ := Aside0.mk (hbox); have n4_ := Aside0.mk ((by rw [hg]; exact (below_size (by repeat (first | (with_reducible first | exact HB.out | apply below_alloc | apply pw_below_drewN | apply below_drew1 | refine below_set ?_ GE185.out | refine below_set ?_ GE186.out) | exact HB.out))) : w.heap.size ≤ gb187)); have n5_ := Aside0.mk ((by rw [hg]; exact (below_size (by repeat (first | (with_reducible first | exact HB.out | apply below_alloc | apply pw_below_drewN | apply below_drew1 | refine below_set ?_ GE185.out | refine below_set ?_ GE186.out) | exact HB.out))) : w.heap.size ≤ gb187)); have n6_ := Aside0.mk ((by rw [hg]; exact Nat.ne_of_lt (blk_lt (g := gb185) (o := .cells #[.string a0_0, .string a0_1, .int .i64 a0_2] 30 (0, 0)) (by (with_reducible repeat (first | refine blk_drewN ?_ _ | refine blk_drew ?_ | refine blk_alloc ?_ _)); exact BK185.out)) : gb185 ≠ gb187)); have n7_ := Aside0.mk ((by rw [hg]; exact Nat.ne_of_gt (blk_lt (g := gb185) (o := .cells #[.string a0_0, .string a0_1, .int .i64 a0_2] 30 (0, 0)) (by (with_reducible repeat (first | refine blk_drewN ?_ _ | refine blk_drew ?_ | refine blk_alloc ?_ _)); exact BK185.out)) : gb187 ≠ gb185)); have n8_ := Aside0.mk ((by rw [hg]; exact Nat.ne_of_lt (blk_lt (g := gb186) (o := .cells #[.int .i64 a1_0, .int .i64 a1_1, .int .i64 a1_2, .string a1_3, .string a1_4, .slice A1_5 l1_5.length c1_5] 42 (0, 0)) (by (with_reducible repeat (first | refine blk_drewN ?_ _ | refine blk_drew ?_ | refine blk_alloc ?_ _)); exact BK186.out)) : gb186 ≠ gb187)); have n9_ := Aside0.mk ((by rw [hg]; exact Nat.ne_of_gt (blk_lt (g := gb186) (o := .cells #[.int .i64 a1_0, .int .i64 a1_1, .int .i64 a1_2, .string a1_3, .string a1_4, .slice A1_5 l1_5.length c1_5] 42 (0, 0)) (by (with_reducible repeat (first | refine blk_drewN ?_ _ | refine blk_drew ?_ | refine blk_alloc ?_ _)); exact BK186.out)) : gb187 ≠ gb186)); clear BK185; clear BK186; clear HB; have BK185 := n0_; have BK186 := n1_; have HB := n2_; have BK187 := n3_; have GW187 := n4_; have GE187 := n5_; have NB185_187 := n6_; have NB187_185 := n7_; have NB186_187 := n8_; have NB187_186 := n9_; clear n0_ n1_ n2_ n3_ n4_ n5_ n6_ n7_ n8_ n9_; clear hb hbox hg; have hnb24 := NB185_186.out; have hnc24 := NB186_185.out; have hnb25 := NB185_187.out; have hnc25 := NB187_185.out; have hcz26_0 : w23.cell? ⟨gb185, 0, none⟩ = some (.string a0_0) := (blk_cell BK185.out 0).trans rfl; have hcz26_1 : w23.cell? ⟨gb185, 1, none⟩ = some (.string a0_1) := (blk_cell BK185.out 1).trans rfl; have hcz26_2 : w23.cell? ⟨gb185, 2, none⟩ = some (.int .i64 a0_2) := (blk_cell BK185.out 2).trans rfl; have hfz26_0 := blk_frozen BK185.out 0; have hfz26_1 := blk_frozen BK185.out 1; have hfz26_2 := blk_frozen BK185.out 2) | ((with_reducible refine gate_callee (f := 21) rfl ?_); refine goesL_ (some 9) rfl rfl Try.func21 (by kernel_rfl) rfl #[.agg #[.string a0_0, .string a0_1, .int .i64 a0_2]] rfl (by (try simp only [List.map_toArray, List.map_cons, List.map_nil]); first | done | rfl | (simp only [List.length_drop, List.length_take]; rfl)) ?_; (with_reducible refine (file_May.calls a0_0 a0_1 a0_2 true _ A3.out).mono ?_); rintro e w27 ⟨rfl, hb⟩; refine ⟨_, rfl, ?_⟩; have n0_ := Aside0.mk (blk_below (g := gb185) (o := .cells #[.string a0_0, .string a0_1, .int .i64 a0_2] 30 (0, 0)) (by (with_reducible repeat (first | refine blk_drewN ?_ _ | refine blk_drew ?_ | refine blk_alloc ?_ _)); exact BK185.out) hb); have n1_ := Aside0.mk (blk_below (g := gb186) (o := .cells #[.int .i64 a1_0, .int .i64 a1_1, .int .i64 a1_2, .string a1_3, .string a1_4, .slice A1_5 l1_5.length c1_5] 42 (0, 0)) (by (with_reducible repeat (first | refine blk_drewN ?_ _ | refine blk_drew ?_ | refine blk_alloc ?_ _)); exact BK186.out) hb); have n2_ := Aside0.mk (blk_below (g := gb187) (o := .cells #[.string (⟨#[]⟩ : ByteArray), .string (⟨#[]⟩ : ByteArray), .int .i64 0] 30 (0, 0)) (by (with_reducible repeat (first | refine blk_drewN ?_ _ | refine blk_drew ?_ | refine blk_alloc ?_ _)); exact BK187.out) hb); have n3_ := Aside0.mk (below_step (by repeat (first | (with_reducible first | exact HB.out | apply below_alloc | apply pw_below_drewN | apply below_drew1 | refine below_set ?_ GE185.out | refine below_set ?_ GE186.out | refine below_set ?_ GE187.out) | exact HB.out)) hb); clear BK185; clear BK186; clear BK187; clear HB; have BK185 := n0_; have BK186 := n1_; have BK187 := n2_; have HB := n3_; clear n0_ n1_ n2_ n3_; (try clear hb); (try clear hb2); (try clear hk); (try clear hi); have hnb28 := NB186_187.out; have hnc28 := NB187_186.out; have hcz29_0 : w27.cell? ⟨gb186, 0, none⟩ = some (.int .i64 a1_0) := (blk_cell BK186.out 0).trans rfl; have hcz29_1 : w27.cell? ⟨gb186, 1, none⟩ = some (.int .i64 a1_1) := (blk_cell BK186.out 1).trans rfl; have hcz29_2 : w27.cell? ⟨gb186, 2, none⟩ = some (.int .i64 a1_2) := (blk_cell BK186.out 2).trans rfl; have hcz29_3 : w27.cell? ⟨gb186, 3, none⟩ = some (.string a1_3) := (blk_cell BK186.out 3).trans rfl; have hcz29_4 : w27.cell? ⟨gb186, 4, none⟩ = some (.string a1_4) := (blk_cell BK186.out 4).trans rfl; have hcz29_5 : w27.cell? ⟨gb186, 5, none⟩ = some (.slice A1_5 l1_5.length c1_5) := (blk_cell BK186.out 5).trans rfl; have hfz29_0 := blk_frozen BK186.out 0; have hfz29_1 := blk_frozen BK186.out 1; have hfz29_2 := blk_frozen BK186.out 2; have hfz29_3 := blk_frozen BK186.out 3; have hfz29_4 := blk_frozen BK186.out 4; have hfz29_5 := blk_frozen BK186.out 5) | ((with_reducible refine gate_callee (f := 22) rfl ?_); refine goesL_ (some 14) rfl rfl Try.func22 (by kernel_rfl) rfl #[.agg #[.int .i64 a1_0, .int .i64 a1_1, .int .i64 a1_2, .string a1_3, .string a1_4, .slice A1_5 l1_5.length c1_5]] rfl (by (try simp only [List.map_toArray, List.map_cons, List.map_nil]); first | done | rfl | (simp only [List.length_drop, List.length_take]; rfl)) ?_; (with_reducible refine (record_Bytes.calls k a1_0 a1_1 a1_2 a1_3 a1_4 _ _ l1_5 t189 t190 _ ?side1 ?side2 A5.out).mono ?_); (case side1 => repeat (first | exact (Kd.C_below HR1_5.out HB.out) | (with_reducible refine Kd.C_alloc ?_ _) | (with_reducible refine Kd.C_drewN ?_ _) | (with_reducible refine Kd.C_drew ?_))); (case side2 => exact HC1_5.out); rintro e w30 ⟨rfl, hb⟩; refine ⟨_, rfl, ?_⟩; have n0_ := Aside0.mk (blk_below (g := gb185) (o := .cells #[.string a0_0, .string a0_1, .int .i64 a0_2] 30 (0, 0)) (by (with_reducible repeat (first | refine blk_drewN ?_ _ | refine blk_drew ?_ | refine blk_alloc ?_ _)); exact BK185.out) hb); have n1_ := Aside0.mk (blk_below (g := gb186) (o := .cells #[.int .i64 a1_0, .int .i64 a1_1, .int .i64 a1_2, .string a1_3, .string a1_4, .slice A1_5 l1_5.length c1_5] 42 (0, 0)) (by (with_reducible repeat (first | refine blk_drewN ?_ _ | refine blk_drew ?_ | refine blk_alloc ?_ _)); exact BK186.out) hb); have n2_ := Aside0.mk (blk_below (g := gb187) (o := .cells #[.string (⟨#[]⟩ : ByteArray), .string (⟨#[]⟩ : ByteArray), .int .i64 0] 30 (0, 0)) (by (with_reducible repeat (first | refine blk_drewN ?_ _ | refine blk_drew ?_ | refine blk_alloc ?_ _)); exact BK187.out) hb); have n3_ := Aside0.mk (below_step (by repeat (first | (with_reducible first | exact HB.out | apply below_alloc | apply pw_below_drewN | apply below_drew1 | refine below_set ?_ GE185.out | refine below_set ?_ GE186.out | refine below_set ?_ GE187.out) | exact HB.out)) hb); clear BK185; clear BK186; clear BK187; clear HB; have BK185 := n0_; have BK186 := n1_; have BK187 := n2_; have HB := n3_; clear n0_ n1_ n2_ n3_; (try clear hb); (try clear hb2); (try clear hk); (try clear hi); have hcz31_0 : w30.cell? ⟨gb187, 0, none⟩ = some (.string (⟨#[]⟩ : ByteArray)) := (blk_cell BK187.out 0).trans rfl; have hcz31_1 : w30.cell? ⟨gb187, 1, none⟩ = some (.string (⟨#[]⟩ : ByteArray)) := (blk_cell BK187.out 1).trans rfl; have hcz31_2 : w30.cell? ⟨gb187, 2, none⟩ = some (.int .i64 0) := (blk_cell BK187.out 2).trans rfl; have hfz31_0 := blk_frozen BK187.out 0; have hfz31_1 := blk_frozen BK187.out 1; have hfz31_2 := blk_frozen BK187.out 2))
      refine bodyPost_ret (results_ct rfl _ _ gb187 30 #[.string (⟨#[]⟩ : ByteArray), .string (⟨#[]⟩ : ByteArray), .int .i64 0] (0, 0) _ rfl (by (with_reducible repeat (first | refine blk_drewN ?_ _ | refine blk_drew ?_ | refine blk_alloc ?_ _)); refine blk_put (cs := #[.string (⟨#[]⟩ : ByteArray), .string (⟨#[]⟩ : ByteArray), .int .i64 0]) ?_ 2 _ rfl; (with_reducible repeat (first | refine blk_drewN ?_ _ | refine blk_drew ?_ | refine blk_alloc ?_ _)); refine blk_put (cs := #[.string (⟨#[]⟩ : ByteArray), .string (⟨#[]⟩ : ByteArray), .int .i64 0]) ?_ 1 _ rfl; (with_reducible repeat (first | refine blk_drewN ?_ _ | refine blk_drew ?_ | refine blk_alloc ?_ _)); refine blk_put (cs := #[.string (⟨#[]⟩ : ByteArray), .string (⟨#[]⟩ : ByteArray), .int .i64 0]) ?_ 0 _ rfl; (with_reducible repeat (first | refine blk_drewN ?_ _ | refine blk_drew ?_ | refine blk_alloc ?_ _)); exact BK187.out) Try.underlying30 rfl (by kernel_rfl)) rfl ?_
      exact ⟨by first | rfl | (simp [errW_none, errW_some] <;> rfl) | (simp [*, errW_none, errW_some] <;> rfl), by repeat (first | (with_reducible first | exact HB.out | apply below_alloc | apply pw_below_drewN | apply below_drew1 | refine below_set ?_ GE185.out | refine below_set ?_ GE186.out | refine below_set ?_ GE187.out) | exact HB.out)⟩
  · replace c4 := Bool.eq_false_iff.mpr c4
    subst c4
    have H1 : (some ((⟨#[]⟩ : ByteArray), (⟨#[]⟩ : ByteArray), 0, 1)) = some (r1, r2, r3, r4) := by rw [if_neg (show ¬ (false = true) by decide)] at H; exact H
    clear H
    have H := H1
    clear H1
    simp only [Option.some.injEq, Prod.mk.injEq] at H
    obtain ⟨rfl, rfl, rfl, rfl⟩ := H
    go_enter Try.func7, Try.ntmps7
    go_wp2_with (first | ((with_reducible refine gate_dst (N := 2) rfl ?_); refine box_event ?hg (N := 2) ?hd (cs := #[.string a0_0, .string a0_1, .int .i64 a0_2]) (t := 30) ?hr ?_; (case hd => rfl); (case hg => rfl); (case hr => first | (go_simp; done) | (go_simp; rfl)); intro gb185 hg w32 hbox hb; have n0_ := Aside0.mk (below_step (by repeat (first | (with_reducible first | exact HB.out | apply below_alloc | apply pw_below_drewN | apply below_drew1) | exact HB.out)) hb); have n1_ := Aside0.mk (hbox); have n2_ := Aside0.mk ((by rw [hg]; exact (below_size (by repeat (first | (with_reducible first | exact HB.out | apply below_alloc | apply pw_below_drewN | apply below_drew1) | exact HB.out))) : w.heap.size ≤ gb185)); have n3_ := Aside0.mk ((by rw [hg]; exact (below_size (by repeat (first | (with_reducible first | exact HB.out | apply below_alloc | apply pw_below_drewN | apply below_drew1) | exact HB.out))) : w.heap.size ≤ gb185)); clear HB; have HB := n0_; have BK185 := n1_; have GW185 := n2_; have GE185 := n3_; clear n0_ n1_ n2_ n3_; clear hb hbox hg) | ((with_reducible refine gate_dst (N := 3) rfl ?_); refine box_event ?hg (N := 3) ?hd (cs := #[.int .i64 a1_0, .int .i64 a1_1, .int .i64 a1_2, .string a1_3, .string a1_4, .slice A1_5 l1_5.length c1_5]) (t := 42) ?hr ?_; (case hd => rfl); (case hg => rfl); (case hr => first | (go_simp; done) | (go_simp; rfl)); intro gb186 hg w33 hbox hb; have n0_ := Aside0.mk (blk_below (g := gb185) (o := .cells #[.string a0_0, .string a0_1, .int .i64 a0_2] 30 (0, 0)) (by (with_reducible repeat (first | refine blk_drewN ?_ _ | refine blk_drew ?_ | refine blk_alloc ?_ _)); exact BK185.out) hb); have n1_ := Aside0.mk (below_step (by repeat (first | (with_reducible first | exact HB.out | apply below_alloc | apply pw_below_drewN | apply below_drew1 | refine below_set ?_ GE185.out) | exact HB.out)) hb); have n2_ := Aside0.mk (hbox); have n3_ := Aside0.mk ((by rw [hg]; exact (below_size (by repeat (first | (with_reducible first | exact HB.out | apply below_alloc | apply pw_below_drewN | apply below_drew1 | refine below_set ?_ GE185.out) | exact HB.out))) : w.heap.size ≤ gb186)); have n4_ := Aside0.mk ((by rw [hg]; exact (below_size (by repeat (first | (with_reducible first | exact HB.out | apply below_alloc | apply pw_below_drewN | apply below_drew1 | refine below_set ?_ GE185.out) | exact HB.out))) : w.heap.size ≤ gb186)); have n5_ := Aside0.mk ((by rw [hg]; exact Nat.ne_of_lt (blk_lt (g := gb185) (o := .cells #[.string a0_0, .string a0_1, .int .i64 a0_2] 30 (0, 0)) (by (with_reducible repeat (first | refine blk_drewN ?_ _ | refine blk_drew ?_ | refine blk_alloc ?_ _)); exact BK185.out)) : gb185 ≠ gb186)); have n6_ := Aside0.mk ((by rw [hg]; exact Nat.ne_of_gt (blk_lt (g := gb185) (o := .cells #[.string a0_0, .string a0_1, .int .i64 a0_2] 30 (0, 0)) (by (with_reducible repeat (first | refine blk_drewN ?_ _ | refine blk_drew ?_ | refine blk_alloc ?_ _)); exact BK185.out)) : gb186 ≠ gb185)); clear BK185; clear HB; have BK185 := n0_; have HB := n1_; have BK186 := n2_; have GW186 := n3_; have GE186 := n4_; have NB185_186 := n5_; have NB186_185 := n6_; clear n0_ n1_ n2_ n3_ n4_ n5_ n6_; clear hb hbox hg) | ((with_reducible refine gate_dst (N := 4) rfl ?_); refine box_event ?hg (N := 4) ?hd (cs := #[.string (⟨#[]⟩ : ByteArray), .string (⟨#[]⟩ : ByteArray), .int .i64 0]) (t := 30) ?hr ?_; (case hd => rfl); (case hg => rfl); (case hr => first | (go_simp; done) | (go_simp; rfl)); intro gb187 hg w34 hbox hb; have n0_ := Aside0.mk (blk_below (g := gb185) (o := .cells #[.string a0_0, .string a0_1, .int .i64 a0_2] 30 (0, 0)) (by (with_reducible repeat (first | refine blk_drewN ?_ _ | refine blk_drew ?_ | refine blk_alloc ?_ _)); exact BK185.out) hb); have n1_ := Aside0.mk (blk_below (g := gb186) (o := .cells #[.int .i64 a1_0, .int .i64 a1_1, .int .i64 a1_2, .string a1_3, .string a1_4, .slice A1_5 l1_5.length c1_5] 42 (0, 0)) (by (with_reducible repeat (first | refine blk_drewN ?_ _ | refine blk_drew ?_ | refine blk_alloc ?_ _)); exact BK186.out) hb); have n2_ := Aside0.mk (below_step (by repeat (first | (with_reducible first | exact HB.out | apply below_alloc | apply pw_below_drewN | apply below_drew1 | refine below_set ?_ GE185.out | refine below_set ?_ GE186.out) | exact HB.out)) hb); have n3_ := Aside0.mk (hbox); have n4_ := Aside0.mk ((by rw [hg]; exact (below_size (by repeat (first | (with_reducible first | exact HB.out | apply below_alloc | apply pw_below_drewN | apply below_drew1 | refine below_set ?_ GE185.out | refine below_set ?_ GE186.out) | exact HB.out))) : w.heap.size ≤ gb187)); have n5_ := Aside0.mk ((by rw [hg]; exact (below_size (by repeat (first | (with_reducible first | exact HB.out | apply below_alloc | apply pw_below_drewN | apply below_drew1 | refine below_set ?_ GE185.out | refine below_set ?_ GE186.out) | exact HB.out))) : w.heap.size ≤ gb187)); have n6_ := Aside0.mk ((by rw [hg]; exact Nat.ne_of_lt (blk_lt (g := gb185) (o := .cells #[.string a0_0, .string a0_1, .int .i64 a0_2] 30 (0, 0)) (by (with_reducible repeat (first | refine blk_drewN ?_ _ | refine blk_drew ?_ | refine blk_alloc ?_ _)); exact BK185.out)) : gb185 ≠ gb187)); have n7_ := Aside0.mk ((by rw [hg]; exact Nat.ne_of_gt (blk_lt (g := gb185) (o := .cells #[.string a0_0, .string a0_1, .int .i64 a0_2] 30 (0, 0)) (by (with_reducible repeat (first | refine blk_drewN ?_ _ | refine blk_drew ?_ | refine blk_alloc ?_ _)); exact BK185.out)) : gb187 ≠ gb185)); have n8_ := Aside0.mk ((by rw [hg]; exact Nat.ne_of_lt (blk_lt (g := gb186) (o := .cells #[.int .i64 a1_0, .int .i64 a1_1, .int .i64 a1_2, .string a1_3, .string a1_4, .slice A1_5 l1_5.length c1_5] 42 (0, 0)) (by (with_reducible repeat (first | refine blk_drewN ?_ _ | refine blk_drew ?_ | refine blk_alloc ?_ _)); exact BK186.out)) : gb186 ≠ gb187)); have n9_ := Aside0.mk ((by rw [hg]; exact Nat.ne_of_gt (blk_lt (g := gb186) (o := .cells #[.int .i64 a1_0, .int .i64 a1_1, .int .i64 a1_2, .string a1_3, .string a1_4, .slice A1_5 l1_5.length c1_5] 42 (0, 0)) (by (with_reducible repeat (first | refine blk_drewN ?_ _ | refine blk_drew ?_ | refine blk_alloc ?_ _)); exact BK186.out)) : gb187 ≠ gb186)); clear BK185; clear BK186; clear HB; have BK185 := n0_; have BK186 := n1_; have HB := n2_; have BK187 := n3_; have GW187 := n4_; have GE187 := n5_; have NB185_187 := n6_; have NB187_185 := n7_; have NB186_187 := n8_; have NB187_186 := n9_; clear n0_ n1_ n2_ n3_ n4_ n5_ n6_ n7_ n8_ n9_; clear hb hbox hg; have hnb35 := NB185_186.out; have hnc35 := NB186_185.out; have hnb36 := NB185_187.out; have hnc36 := NB187_185.out; have hcz37_0 : w34.cell? ⟨gb185, 0, none⟩ = some (.string a0_0) := (blk_cell BK185.out 0).trans rfl; have hcz37_1 : w34.cell? ⟨gb185, 1, none⟩ = some (.string a0_1) := (blk_cell BK185.out 1).trans rfl; have hcz37_2 : w34.cell? ⟨gb185, 2, none⟩ = some (.int .i64 a0_2) := (blk_cell BK185.out 2).trans rfl; have hfz37_0 := blk_frozen BK185.out 0; have hfz37_1 := blk_frozen BK185.out 1; have hfz37_2 := blk_frozen BK185.out 2) | ((with_reducible refine gate_callee (f := 21) rfl ?_); refine goesL_ (some 9) rfl rfl Try.func21 (by kernel_rfl) rfl #[.agg #[.string a0_0, .string a0_1, .int .i64 a0_2]] rfl (by (try simp only [List.map_toArray, List.map_cons, List.map_nil]); first | done | rfl | (simp only [List.length_drop, List.length_take]; rfl)) ?_; (with_reducible refine (file_May.calls a0_0 a0_1 a0_2 false _ A3.out).mono ?_); rintro e w38 ⟨rfl, hb⟩; refine ⟨_, rfl, ?_⟩; have n0_ := Aside0.mk (blk_below (g := gb185) (o := .cells #[.string a0_0, .string a0_1, .int .i64 a0_2] 30 (0, 0)) (by (with_reducible repeat (first | refine blk_drewN ?_ _ | refine blk_drew ?_ | refine blk_alloc ?_ _)); exact BK185.out) hb); have n1_ := Aside0.mk (blk_below (g := gb186) (o := .cells #[.int .i64 a1_0, .int .i64 a1_1, .int .i64 a1_2, .string a1_3, .string a1_4, .slice A1_5 l1_5.length c1_5] 42 (0, 0)) (by (with_reducible repeat (first | refine blk_drewN ?_ _ | refine blk_drew ?_ | refine blk_alloc ?_ _)); exact BK186.out) hb); have n2_ := Aside0.mk (blk_below (g := gb187) (o := .cells #[.string (⟨#[]⟩ : ByteArray), .string (⟨#[]⟩ : ByteArray), .int .i64 0] 30 (0, 0)) (by (with_reducible repeat (first | refine blk_drewN ?_ _ | refine blk_drew ?_ | refine blk_alloc ?_ _)); exact BK187.out) hb); have n3_ := Aside0.mk (below_step (by repeat (first | (with_reducible first | exact HB.out | apply below_alloc | apply pw_below_drewN | apply below_drew1 | refine below_set ?_ GE185.out | refine below_set ?_ GE186.out | refine below_set ?_ GE187.out) | exact HB.out)) hb); clear BK185; clear BK186; clear BK187; clear HB; have BK185 := n0_; have BK186 := n1_; have BK187 := n2_; have HB := n3_; clear n0_ n1_ n2_ n3_; (try clear hb); (try clear hb2); (try clear hk); (try clear hi); have hnb39 := NB187_186.out; have hnc39 := NB186_187.out; have hcz40_0 : w38.cell? ⟨gb187, 0, none⟩ = some (.string (⟨#[]⟩ : ByteArray)) := (blk_cell BK187.out 0).trans rfl; have hcz40_1 : w38.cell? ⟨gb187, 1, none⟩ = some (.string (⟨#[]⟩ : ByteArray)) := (blk_cell BK187.out 1).trans rfl; have hcz40_2 : w38.cell? ⟨gb187, 2, none⟩ = some (.int .i64 0) := (blk_cell BK187.out 2).trans rfl; have hfz40_0 := blk_frozen BK187.out 0; have hfz40_1 := blk_frozen BK187.out 1; have hfz40_2 := blk_frozen BK187.out 2))
    refine bodyPost_ret (results_ct rfl _ _ gb187 30 #[.string (⟨#[]⟩ : ByteArray), .string (⟨#[]⟩ : ByteArray), .int .i64 0] (0, 0) _ rfl (by (with_reducible repeat (first | refine blk_drewN ?_ _ | refine blk_drew ?_ | refine blk_alloc ?_ _)); refine blk_put (cs := #[.string (⟨#[]⟩ : ByteArray), .string (⟨#[]⟩ : ByteArray), .int .i64 0]) ?_ 2 _ rfl; (with_reducible repeat (first | refine blk_drewN ?_ _ | refine blk_drew ?_ | refine blk_alloc ?_ _)); refine blk_put (cs := #[.string (⟨#[]⟩ : ByteArray), .string (⟨#[]⟩ : ByteArray), .int .i64 0]) ?_ 1 _ rfl; (with_reducible repeat (first | refine blk_drewN ?_ _ | refine blk_drew ?_ | refine blk_alloc ?_ _)); refine blk_put (cs := #[.string (⟨#[]⟩ : ByteArray), .string (⟨#[]⟩ : ByteArray), .int .i64 0]) ?_ 0 _ rfl; (with_reducible repeat (first | refine blk_drewN ?_ _ | refine blk_drew ?_ | refine blk_alloc ?_ _)); exact BK187.out) Try.underlying30 rfl (by kernel_rfl)) rfl ?_
    exact ⟨by first | rfl | (simp [errW_none, errW_some] <;> rfl) | (simp [*, errW_none, errW_some] <;> rfl), by repeat (first | (with_reducible first | exact HB.out | apply below_alloc | apply pw_below_drewN | apply below_drew1 | refine below_set ?_ GE185.out | refine below_set ?_ GE186.out | refine below_set ?_ GE187.out) | exact HB.out)⟩
end Go.Proofs.Ytmhjhhlgdenlkaa.P
namespace Go.Proofs.Ytmhjhhlgdenlkaa.P
open Go.RowKit Go.Proofs.YtmhjhhlgdenlkaaW.PrintWords Go.Proofs.YtmhjhhlgdenlkaaW.PrintLast Go.Proofs.YtmhjhhlgdenlkaaW.PrintMore
attribute [local go_sem] max2_int min2_int max_two min_two
set_option linter.unusedVariables false
set_option linter.unusedSimpArgs false
def journal_Recover.f (k : Nat) (a0_0 : ByteArray) (a0_1 : ByteArray) (a0_2 : Int) : Option ((List (S42)) × ByteArray × ByteArray × Int × Int) := (file_May.f a0_0 a0_1 a0_2).bind fun t236 => (if t236 = true then (if a0_1.toList = ([] : List UInt8) then ((journal_Scan.f k a0_0).bind fun bt237 => ((file_Cut.f k a0_0 a0_1 a0_2 bt237.2).bind fun bt241 => (some (bt237.1, bt241.1, bt241.2.1, bt241.2.2.1, bt241.2.2.2)))) else (some (([] : List (S42)), (⟨#[]⟩ : ByteArray), (⟨#[]⟩ : ByteArray), 0, 9))) else (some (([] : List (S42)), (⟨#[]⟩ : ByteArray), (⟨#[]⟩ : ByteArray), 0, 1)))
set_option maxHeartbeats 8000000 in
set_option maxRecDepth 100000 in
theorem journal_Recover.calls (k : Nat) (a0_0 : ByteArray) (a0_1 : ByteArray) (a0_2 : Int) (r1 : List (S42)) (r2 : ByteArray) (r3 : ByteArray) (r4 : Int) (r5 : Int) (w : World) (h : journal_Recover.f k a0_0 a0_1 a0_2 = some (r1, r2, r3, r4, r5)) :
    Calls Try.prog 12 #[.agg #[.string a0_0, .string a0_1, .int .i64 a0_2]] w fun e w' => ∃ v0_ : Value, e = .returned (.tuple #[v0_, .agg #[.string r2, .string r3, .int .i64 r4], .int .i64 r5]) ∧ Kd.S k42 42 w' w.heap.size (fun _ => True) v0_ r1 ∧ Below w.heap.size w w' := by
  have hu30 := Try.underlying30
  have HB := Aside0.mk (Below.refl w.heap.size w)
  have H : ((file_May.f a0_0 a0_1 a0_2).bind fun t236 => (if t236 = true then (if a0_1.toList = ([] : List UInt8) then ((journal_Scan.f k a0_0).bind fun bt237 => ((file_Cut.f k a0_0 a0_1 a0_2 bt237.2).bind fun bt241 => (some (bt237.1, bt241.1, bt241.2.1, bt241.2.2.1, bt241.2.2.2)))) else (some (([] : List (S42)), (⟨#[]⟩ : ByteArray), (⟨#[]⟩ : ByteArray), 0, 9))) else (some (([] : List (S42)), (⟨#[]⟩ : ByteArray), (⟨#[]⟩ : ByteArray), 0, 1)))) = some (r1, r2, r3, r4, r5) := h
  clear h
  replace H := Option.bind_eq_some_iff.mp H
  obtain ⟨t236, A20, H⟩ := H
  replace H : (if t236 = true then (if a0_1.toList = ([] : List UInt8) then ((journal_Scan.f k a0_0).bind fun bt237 => ((file_Cut.f k a0_0 a0_1 a0_2 bt237.2).bind fun bt241 => (some (bt237.1, bt241.1, bt241.2.1, bt241.2.2.1, bt241.2.2.2)))) else (some (([] : List (S42)), (⟨#[]⟩ : ByteArray), (⟨#[]⟩ : ByteArray), 0, 9))) else (some (([] : List (S42)), (⟨#[]⟩ : ByteArray), (⟨#[]⟩ : ByteArray), 0, 1))) = some (r1, r2, r3, r4, r5) := H
  have A2 := Aside0.mk A20
  clear A20
  by_cases c3 : t236 = true
  · subst c3
    have H1 : (if a0_1.toList = ([] : List UInt8) then ((journal_Scan.f k a0_0).bind fun bt237 => ((file_Cut.f k a0_0 a0_1 a0_2 bt237.2).bind fun bt241 => (some (bt237.1, bt241.1, bt241.2.1, bt241.2.2.1, bt241.2.2.2)))) else (some (([] : List (S42)), (⟨#[]⟩ : ByteArray), (⟨#[]⟩ : ByteArray), 0, 9))) = some (r1, r2, r3, r4, r5) := by rw [if_pos rfl] at H; exact H
    clear H
    have H := H1
    clear H1
    by_cases c4 : a0_1.toList = ([] : List UInt8)
    · rw [if_pos c4] at H
      have c4b0 : (a0_1.toList == ([] : List UInt8)) = true := beq_iff_eq.mpr c4
      have c4b1 : (a0_1.toList != ([] : List UInt8)) = false := bne_eq_false_iff_eq.mpr c4
      clear c4
      replace H := Option.bind_eq_some_iff.mp H
      obtain ⟨⟨t237, t238⟩, A50, H⟩ := H
      replace H : ((file_Cut.f k a0_0 a0_1 a0_2 t238).bind fun bt241 => (some (t237, bt241.1, bt241.2.1, bt241.2.2.1, bt241.2.2.2))) = some (r1, r2, r3, r4, r5) := H
      have A5 := Aside0.mk A50
      clear A50
      replace H := Option.bind_eq_some_iff.mp H
      obtain ⟨⟨t241, t242, t243, t244⟩, A60, H⟩ := H
      replace H : (some (t237, t241, t242, t243, t244)) = some (r1, r2, r3, r4, r5) := H
      have A6 := Aside0.mk A60
      clear A60
      simp only [Option.some.injEq, Prod.mk.injEq] at H
      obtain ⟨rfl, rfl, rfl, rfl, rfl⟩ := H
      go_enter Try.func12, Try.ntmps12
      try go_wp2_with (first | ((with_reducible refine gate_dst (N := 1) rfl ?_); refine box_event ?hg (N := 1) ?hd (cs := #[.string a0_0, .string a0_1, .int .i64 a0_2]) (t := 30) ?hr ?_; (case hd => rfl); (case hg => rfl); (case hr => first | (go_simp; done) | (go_simp; rfl)); intro gb234 hg w7 hbox hb; have n0_ := Aside0.mk (below_step (by repeat (first | (with_reducible first | exact HB.out | apply below_alloc | apply pw_below_drewN | apply below_drew1) | exact HB.out)) hb); have n1_ := Aside0.mk (hbox); have n2_ := Aside0.mk ((by rw [hg]; exact (below_size (by repeat (first | (with_reducible first | exact HB.out | apply below_alloc | apply pw_below_drewN | apply below_drew1) | exact HB.out))) : w.heap.size ≤ gb234)); have n3_ := Aside0.mk ((by rw [hg]; exact (below_size (by repeat (first | (with_reducible first | exact HB.out | apply below_alloc | apply pw_below_drewN | apply below_drew1) | exact HB.out))) : w.heap.size ≤ gb234)); clear HB; have HB := n0_; have BK234 := n1_; have GW234 := n2_; have GE234 := n3_; clear n0_ n1_ n2_ n3_; clear hb hbox hg) | ((with_reducible refine gate_dst (N := 3) rfl ?_); refine box_event ?hg (N := 3) ?hd (cs := #[.string (⟨#[]⟩ : ByteArray), .string (⟨#[]⟩ : ByteArray), .int .i64 0]) (t := 30) ?hr ?_; (case hd => rfl); (case hg => rfl); (case hr => first | (go_simp; done) | (go_simp; rfl)); intro gb235 hg w8 hbox hb; have n0_ := Aside0.mk (blk_below (g := gb234) (o := .cells #[.string a0_0, .string a0_1, .int .i64 a0_2] 30 (0, 0)) (by (with_reducible repeat (first | refine blk_drewN ?_ _ | refine blk_drew ?_ | refine blk_alloc ?_ _)); exact BK234.out) hb); have n1_ := Aside0.mk (below_step (by repeat (first | (with_reducible first | exact HB.out | apply below_alloc | apply pw_below_drewN | apply below_drew1 | refine below_set ?_ GE234.out) | exact HB.out)) hb); have n2_ := Aside0.mk (hbox); have n3_ := Aside0.mk ((by rw [hg]; exact (below_size (by repeat (first | (with_reducible first | exact HB.out | apply below_alloc | apply pw_below_drewN | apply below_drew1 | refine below_set ?_ GE234.out) | exact HB.out))) : w.heap.size ≤ gb235)); have n4_ := Aside0.mk ((by rw [hg]; exact (below_size (by repeat (first | (with_reducible first | exact HB.out | apply below_alloc | apply pw_below_drewN | apply below_drew1 | refine below_set ?_ GE234.out) | exact HB.out))) : w.heap.size ≤ gb235)); have n5_ := Aside0.mk ((by rw [hg]; exact Nat.ne_of_lt (blk_lt (g := gb234) (o := .cells #[.string a0_0, .string a0_1, .int .i64 a0_2] 30 (0, 0)) (by (with_reducible repeat (first | refine blk_drewN ?_ _ | refine blk_drew ?_ | refine blk_alloc ?_ _)); exact BK234.out)) : gb234 ≠ gb235)); have n6_ := Aside0.mk ((by rw [hg]; exact Nat.ne_of_gt (blk_lt (g := gb234) (o := .cells #[.string a0_0, .string a0_1, .int .i64 a0_2] 30 (0, 0)) (by (with_reducible repeat (first | refine blk_drewN ?_ _ | refine blk_drew ?_ | refine blk_alloc ?_ _)); exact BK234.out)) : gb235 ≠ gb234)); clear BK234; clear HB; have BK234 := n0_; have HB := n1_; have BK235 := n2_; have GW235 := n3_; have GE235 := n4_; have NB234_235 := n5_; have NB235_234 := n6_; clear n0_ n1_ n2_ n3_ n4_ n5_ n6_; clear hb hbox hg; have hnb9 := NB234_235.out; have hnc9 := NB235_234.out; have hcz10_0 : w8.cell? ⟨gb234, 0, none⟩ = some (.string a0_0) := (blk_cell BK234.out 0).trans rfl; have hcz10_1 : w8.cell? ⟨gb234, 1, none⟩ = some (.string a0_1) := (blk_cell BK234.out 1).trans rfl; have hcz10_2 : w8.cell? ⟨gb234, 2, none⟩ = some (.int .i64 a0_2) := (blk_cell BK234.out 2).trans rfl; have hfz10_0 := blk_frozen BK234.out 0; have hfz10_1 := blk_frozen BK234.out 1; have hfz10_2 := blk_frozen BK234.out 2) | ((with_reducible refine gate_callee (f := 21) rfl ?_); refine goesL_ (some 8) rfl rfl Try.func21 (by kernel_rfl) rfl #[.agg #[.string a0_0, .string a0_1, .int .i64 a0_2]] rfl (by (try simp only [List.map_toArray, List.map_cons, List.map_nil]); first | done | rfl | (simp only [List.length_drop, List.length_take]; rfl)) ?_; (with_reducible refine (file_May.calls a0_0 a0_1 a0_2 true _ A2.out).mono ?_); rintro e w11 ⟨rfl, hb⟩; refine ⟨_, rfl, ?_⟩; have n0_ := Aside0.mk (blk_below (g := gb234) (o := .cells #[.string a0_0, .string a0_1, .int .i64 a0_2] 30 (0, 0)) (by (with_reducible repeat (first | refine blk_drewN ?_ _ | refine blk_drew ?_ | refine blk_alloc ?_ _)); exact BK234.out) hb); have n1_ := Aside0.mk (blk_below (g := gb235) (o := .cells #[.string (⟨#[]⟩ : ByteArray), .string (⟨#[]⟩ : ByteArray), .int .i64 0] 30 (0, 0)) (by (with_reducible repeat (first | refine blk_drewN ?_ _ | refine blk_drew ?_ | refine blk_alloc ?_ _)); exact BK235.out) hb); have n2_ := Aside0.mk (below_step (by repeat (first | (with_reducible first | exact HB.out | apply below_alloc | apply pw_below_drewN | apply below_drew1 | refine below_set ?_ GE234.out | refine below_set ?_ GE235.out) | exact HB.out)) hb); clear BK234; clear BK235; clear HB; have BK234 := n0_; have BK235 := n1_; have HB := n2_; clear n0_ n1_ n2_; (try clear hb); (try clear hb2); (try clear hk); (try clear hi); have hcz12_0 : w11.cell? ⟨gb234, 0, none⟩ = some (.string a0_0) := (blk_cell BK234.out 0).trans rfl; have hcz12_1 : w11.cell? ⟨gb234, 1, none⟩ = some (.string a0_1) := (blk_cell BK234.out 1).trans rfl; have hcz12_2 : w11.cell? ⟨gb234, 2, none⟩ = some (.int .i64 a0_2) := (blk_cell BK234.out 2).trans rfl; have hfz12_0 := blk_frozen BK234.out 0; have hfz12_1 := blk_frozen BK234.out 1; have hfz12_2 := blk_frozen BK234.out 2) | ((with_reducible refine gate_callee (f := 17) rfl ?_); refine goesL_ (some 19) rfl rfl Try.func17 (by kernel_rfl) rfl #[.string a0_0] rfl (by (try simp only [List.map_toArray, List.map_cons, List.map_nil]); first | done | rfl | (simp only [List.length_drop, List.length_take]; rfl)) ?_; (with_reducible refine (journal_Scan.calls k a0_0 t237 t238 _ A5.out).mono ?_); rintro e w13 ⟨v239, rfl, ho0, hb⟩; refine ⟨_, rfl, ?_⟩; have n0_ := Aside0.mk (Kd.S_lower ho0 (below_size (by repeat (first | (with_reducible first | exact HB.out | apply below_alloc | apply pw_below_drewN | apply below_drew1 | refine below_set ?_ GE234.out | refine below_set ?_ GE235.out) | exact HB.out)))); have n1_ := Aside0.mk (blk_below (g := gb234) (o := .cells #[.string a0_0, .string a0_1, .int .i64 a0_2] 30 (0, 0)) (by (with_reducible repeat (first | refine blk_drewN ?_ _ | refine blk_drew ?_ | refine blk_alloc ?_ _)); exact BK234.out) hb); have n2_ := Aside0.mk (blk_below (g := gb235) (o := .cells #[.string (⟨#[]⟩ : ByteArray), .string (⟨#[]⟩ : ByteArray), .int .i64 0] 30 (0, 0)) (by (with_reducible repeat (first | refine blk_drewN ?_ _ | refine blk_drew ?_ | refine blk_alloc ?_ _)); exact BK235.out) hb); have n3_ := Aside0.mk (below_step (by repeat (first | (with_reducible first | exact HB.out | apply below_alloc | apply pw_below_drewN | apply below_drew1 | refine below_set ?_ GE234.out | refine below_set ?_ GE235.out) | exact HB.out)) hb); clear BK234; clear BK235; clear HB; have HO240 := n0_; have BK234 := n1_; have BK235 := n2_; have HB := n3_; clear n0_ n1_ n2_ n3_; (try clear hb); (try clear hb2); (try clear hk); (try clear hi); (try clear ho0); have hcz14_0 : w13.cell? ⟨gb234, 0, none⟩ = some (.string a0_0) := (blk_cell BK234.out 0).trans rfl; have hcz14_1 : w13.cell? ⟨gb234, 1, none⟩ = some (.string a0_1) := (blk_cell BK234.out 1).trans rfl; have hcz14_2 : w13.cell? ⟨gb234, 2, none⟩ = some (.int .i64 a0_2) := (blk_cell BK234.out 2).trans rfl; have hfz14_0 := blk_frozen BK234.out 0; have hfz14_1 := blk_frozen BK234.out 1; have hfz14_2 := blk_frozen BK234.out 2) | ((with_reducible refine gate_callee (f := 24) rfl ?_); refine goesL_ (some 25) rfl rfl Try.func24 (by kernel_rfl) rfl #[.agg #[.string a0_0, .string a0_1, .int .i64 a0_2], .int .i64 t238] rfl (by (try simp only [List.map_toArray, List.map_cons, List.map_nil]); first | done | rfl | (simp only [List.length_drop, List.length_take]; rfl)) ?_; (with_reducible refine (file_Cut.calls k a0_0 a0_1 a0_2 t238 t241 t242 t243 t244 _ A6.out).mono ?_); rintro e w15 ⟨rfl, hb⟩; refine ⟨_, rfl, ?_⟩; have n0_ := Aside0.mk (Kd.S_below (by (with_reducible repeat (first | apply Kd.S_alloc | apply Kd.S_drewN | apply Kd.S_drew)); exact HO240.out) hb); have n1_ := Aside0.mk (blk_below (g := gb234) (o := .cells #[.string a0_0, .string a0_1, .int .i64 a0_2] 30 (0, 0)) (by (with_reducible repeat (first | refine blk_drewN ?_ _ | refine blk_drew ?_ | refine blk_alloc ?_ _)); exact BK234.out) hb); have n2_ := Aside0.mk (blk_below (g := gb235) (o := .cells #[.string (⟨#[]⟩ : ByteArray), .string (⟨#[]⟩ : ByteArray), .int .i64 0] 30 (0, 0)) (by (with_reducible repeat (first | refine blk_drewN ?_ _ | refine blk_drew ?_ | refine blk_alloc ?_ _)); exact BK235.out) hb); have n3_ := Aside0.mk (below_step (by repeat (first | (with_reducible first | exact HB.out | apply below_alloc | apply pw_below_drewN | apply below_drew1 | refine below_set ?_ GE234.out | refine below_set ?_ GE235.out) | exact HB.out)) hb); clear HO240; clear BK234; clear BK235; clear HB; have HO240 := n0_; have BK234 := n1_; have BK235 := n2_; have HB := n3_; clear n0_ n1_ n2_ n3_; (try clear hb); (try clear hb2); (try clear hk); (try clear hi); have hcz16_0 : w15.cell? ⟨gb235, 0, none⟩ = some (.string (⟨#[]⟩ : ByteArray)) := (blk_cell BK235.out 0).trans rfl; have hcz16_1 : w15.cell? ⟨gb235, 1, none⟩ = some (.string (⟨#[]⟩ : ByteArray)) := (blk_cell BK235.out 1).trans rfl; have hcz16_2 : w15.cell? ⟨gb235, 2, none⟩ = some (.int .i64 0) := (blk_cell BK235.out 2).trans rfl; have hfz16_0 := blk_frozen BK235.out 0; have hfz16_1 := blk_frozen BK235.out 1; have hfz16_2 := blk_frozen BK235.out 2))
      have n0_ : Aside0 (Kd.S k42 42 (((w15.setCell ⟨gb235, 0, none⟩ (.string t241)).setCell ⟨gb235, 1, none⟩ (.string t242)).setCell ⟨gb235, 2, none⟩ (.int .i64 t243)) w.heap.size (fun _ => True) v239 t237) := ⟨by (with_reducible repeat (first | apply Kd.S_alloc | apply Kd.S_drewN | apply Kd.S_drew)); exact Kd.S_mono (Kd.S_far (p := ⟨gb235, 2, none⟩) (Kd.S_far (p := ⟨gb235, 1, none⟩) (Kd.S_far (p := ⟨gb235, 0, none⟩) (Kd.S_types HO240.out BK235.out (by decide)) (fun _ hk => hk.2) (.string t241)) (fun _ hk => hk.2) (.string t242)) (fun _ hk => hk.2) (.int .i64 t243)) (fun _ hk => trivial)⟩
      have n1_ : Aside0 ((((w15.setCell ⟨gb235, 0, none⟩ (.string t241)).setCell ⟨gb235, 1, none⟩ (.string t242)).setCell ⟨gb235, 2, none⟩ (.int .i64 t243)).heap[gb234]? = some (.cells #[.string a0_0, .string a0_1, .int .i64 a0_2] 30 (0, 0))) := ⟨by (with_reducible repeat (first | refine blk_drewN ?_ _ | refine blk_drew ?_ | refine blk_alloc ?_ _)); refine blk_far ?_ NB234_235.out _; (with_reducible repeat (first | refine blk_drewN ?_ _ | refine blk_drew ?_ | refine blk_alloc ?_ _)); refine blk_far ?_ NB234_235.out _; (with_reducible repeat (first | refine blk_drewN ?_ _ | refine blk_drew ?_ | refine blk_alloc ?_ _)); refine blk_far ?_ NB234_235.out _; (with_reducible repeat (first | refine blk_drewN ?_ _ | refine blk_drew ?_ | refine blk_alloc ?_ _)); exact BK234.out⟩
      have n2_ : Aside0 ((((w15.setCell ⟨gb235, 0, none⟩ (.string t241)).setCell ⟨gb235, 1, none⟩ (.string t242)).setCell ⟨gb235, 2, none⟩ (.int .i64 t243)).heap[gb235]? = some (.cells #[.string t241, .string t242, .int .i64 t243] 30 (0, 0))) := ⟨by (with_reducible repeat (first | refine blk_drewN ?_ _ | refine blk_drew ?_ | refine blk_alloc ?_ _)); refine blk_put (cs := #[.string t241, .string t242, .int .i64 0]) ?_ 2 _ rfl; (with_reducible repeat (first | refine blk_drewN ?_ _ | refine blk_drew ?_ | refine blk_alloc ?_ _)); refine blk_put (cs := #[.string t241, .string (⟨#[]⟩ : ByteArray), .int .i64 0]) ?_ 1 _ rfl; (with_reducible repeat (first | refine blk_drewN ?_ _ | refine blk_drew ?_ | refine blk_alloc ?_ _)); refine blk_put (cs := #[.string (⟨#[]⟩ : ByteArray), .string (⟨#[]⟩ : ByteArray), .int .i64 0]) ?_ 0 _ rfl; (with_reducible repeat (first | refine blk_drewN ?_ _ | refine blk_drew ?_ | refine blk_alloc ?_ _)); exact BK235.out⟩
      have n3_ : Aside0 (Below w.heap.size w (((w15.setCell ⟨gb235, 0, none⟩ (.string t241)).setCell ⟨gb235, 1, none⟩ (.string t242)).setCell ⟨gb235, 2, none⟩ (.int .i64 t243))) := ⟨by repeat (first | (with_reducible first | exact HB.out | apply below_alloc | apply pw_below_drewN | apply below_drew1 | refine below_set ?_ GE234.out | refine below_set ?_ GE235.out) | exact HB.out)⟩
      (try clear HO240)
      (try clear BK234)
      (try clear BK235)
      (try clear HB)
      generalize (((w15.setCell ⟨gb235, 0, none⟩ (.string t241)).setCell ⟨gb235, 1, none⟩ (.string t242)).setCell ⟨gb235, 2, none⟩ (.int .i64 t243)) = w17 at n0_ n1_ n2_ n3_ ⊢
      have HO240 := n0_
      have BK234 := n1_
      have BK235 := n2_
      have HB := n3_
      clear n0_ n1_ n2_ n3_
      have n0_ := Aside0.mk (Kd.S_drew HO240.out)
      have n1_ := Aside0.mk (blk_drew BK234.out)
      have n2_ := Aside0.mk (blk_drew BK235.out)
      have n3_ := Aside0.mk (below_drew1 HB.out)
      clear HO240
      clear BK234
      clear BK235
      clear HB
      have HO240 := n0_
      have BK234 := n1_
      have BK235 := n2_
      have HB := n3_
      clear n0_ n1_ n2_ n3_
      refine start_ (n := 6) (S := fun w' => w'.cell? ⟨gb235, 0, none⟩ = some (.string t241) ∧ w'.cell? ⟨gb235, 1, none⟩ = some (.string t242) ∧ w'.cell? ⟨gb235, 2, none⟩ = some (.int .i64 t243)) (ds := [4]) #[false, false, false, false, false, false] (by kernel_rfl) rfl rfl ⟨(blk_cell BK235.out 0).trans rfl, (blk_cell BK235.out 1).trans rfl, (blk_cell BK235.out 2).trans rfl⟩ (fun hHeld => ?_)
      generalize w17.drew = w18 at HO240 BK234 BK235 HB hHeld ⊢
      refine pure_ (i := 0) (N := some 28) (v := ?_) (a' := ?_) #[true, false, false, false, false, false] rfl rfl (by kernel_rfl) (fun _ _ _ h => h) (Or.inl ⟨by rfl, ?_⟩) ?_ ?_
      rotate_left
      · intro w'
        go_simp
        with_reducible rfl
      rotate_left
      · simp only [Act.put, List.setIfInBounds_toArray, List.set_cons_zero, List.set_cons_succ, i64_w, i32_w]
        rfl
      refine pure_ (i := 2) (N := some 30) (v := ?_) (a' := ?_) #[true, false, true, false, false, false] rfl rfl (by kernel_rfl) (fun _ _ _ h => h) (Or.inl ⟨by rfl, ?_⟩) ?_ ?_
      rotate_left
      · intro w'
        go_simp
        with_reducible rfl
      rotate_left
      · simp only [Act.put, List.setIfInBounds_toArray, List.set_cons_zero, List.set_cons_succ, i64_w, i32_w]
        rfl
      refine pure_ (i := 3) (N := some 2) (v := ?_) (a' := ?_) #[true, false, true, true, false, false] rfl rfl (by kernel_rfl) (fun _ _ _ h => h) (Or.inl ⟨by rfl, ?_⟩) ?_ ?_
      rotate_left
      · intro w'
        go_simp
        with_reducible rfl
      rotate_left
      · simp only [Act.put, List.setIfInBounds_toArray, List.set_cons_zero, List.set_cons_succ, i64_w, i32_w]
        rfl
      refine take_ (i := 1) (N := some 29) (v := ?_) (a' := ?_) #[true, true, true, true, false, false] rfl rfl (by kernel_rfl) (fun _ _ _ h => h) (Or.inl ⟨by rfl, ?_⟩) hHeld ?_ ?_
      rotate_left
      · rintro w' ⟨s0, s1, s2⟩
        go_simp
        with_reducible rfl
      rotate_left
      · simp only [Act.put, List.setIfInBounds_toArray, List.set_cons_zero, List.set_cons_succ, i64_w, i32_w]
        rfl
      refine last_ (i := 4) (N := none) #[true, true, true, true, true, false] rfl rfl (by kernel_rfl) (by decide) (fun K hK => ?_)
      have hs19 : w18.cell? ⟨gb235, 0, none⟩ = some (.string t241) := (blk_cell BK235.out 0).trans rfl
      have hfs19 := blk_frozen BK235.out 0
      have hns19_0 := NB234_235.out
      have hms19_0 := NB235_234.out
      have hs20 : w18.cell? ⟨gb235, 1, none⟩ = some (.string t242) := (blk_cell BK235.out 1).trans rfl
      have hfs20 := blk_frozen BK235.out 1
      have hns20_0 := NB234_235.out
      have hms20_0 := NB235_234.out
      have hs21 : w18.cell? ⟨gb235, 2, none⟩ = some (.int .i64 t243) := (blk_cell BK235.out 2).trans rfl
      have hfs21 := blk_frozen BK235.out 2
      have hns21_0 := NB234_235.out
      have hms21_0 := NB235_234.out
      refine skip_ (w1 := ?_) (by rfl) rfl ?_ ?_
      rotate_left
      · go_simp
        rfl
      refine hK.out _ _ ?_
      clear hK K
      refine pure_ (i := 5) (N := some 4) (v := ?_) (a' := ?_) #[true, true, true, true, true, true] rfl rfl (by kernel_rfl) (fun _ _ _ h => h) (Or.inl ⟨by rfl, ?_⟩) ?_ ?_
      rotate_left
      · intro w'
        go_simp
        with_reducible rfl
      rotate_left
      · simp only [Act.put, List.setIfInBounds_toArray, List.set_cons_zero, List.set_cons_succ, i64_w, i32_w]
        rfl
      refine done_ (by kernel_rfl) ?_
      try go_wp2
      refine bodyPost_ret (results_list (rs := [.tmp 2, .cell 3 30, .tmp 4]) rfl (by simp) (.tmp (.cell gb235 30 #[.string t241, .string t242, .int .i64 t243] (0, 0) _ rfl (by (with_reducible repeat (first | refine blk_drewN ?_ _ | refine blk_drew ?_ | refine blk_alloc ?_ _)); refine blk_put (cs := #[.string t241, .string t242, .int .i64 t243]) ?_ 2 _ rfl; (with_reducible repeat (first | refine blk_drewN ?_ _ | refine blk_drew ?_ | refine blk_alloc ?_ _)); refine blk_put (cs := #[.string t241, .string t242, .int .i64 t243]) ?_ 1 _ rfl; (with_reducible repeat (first | refine blk_drewN ?_ _ | refine blk_drew ?_ | refine blk_alloc ?_ _)); refine blk_put (cs := #[.string t241, .string t242, .int .i64 t243]) ?_ 0 _ rfl; (with_reducible repeat (first | refine blk_drewN ?_ _ | refine blk_drew ?_ | refine blk_alloc ?_ _)); exact BK235.out) Try.underlying30 rfl (by kernel_rfl) (.tmp .nil)))) rfl ?_
      exact ⟨_, by first | rfl | (simp [errW_none, errW_some] <;> rfl) | (simp [*, errW_none, errW_some] <;> rfl), by (with_reducible repeat (first | apply Kd.S_alloc | apply Kd.S_drewN | apply Kd.S_drew)); exact Kd.S_mono (Kd.S_far (p := ⟨gb235, 2, none⟩) (Kd.S_far (p := ⟨gb235, 1, none⟩) (Kd.S_far (p := ⟨gb235, 0, none⟩) (Kd.S_types HO240.out BK235.out (by decide)) (fun _ hk => hk.2) (.string t241)) (fun _ hk => hk.2) (.string t242)) (fun _ hk => hk.2) (.int .i64 t243)) (fun _ hk => trivial), by repeat (first | (with_reducible first | exact HB.out | apply below_alloc | apply pw_below_drewN | apply below_drew1 | refine below_set ?_ GE234.out | refine below_set ?_ GE235.out) | exact HB.out)⟩
    · rw [if_neg c4] at H
      have c4b0 : (a0_1.toList == ([] : List UInt8)) = false := beq_eq_false_iff_ne.mpr c4
      have c4b1 : (a0_1.toList != ([] : List UInt8)) = true := bne_iff_ne.mpr c4
      simp only [Option.some.injEq, Prod.mk.injEq] at H
      obtain ⟨rfl, rfl, rfl, rfl, rfl⟩ := H
      go_enter Try.func12, Try.ntmps12
      try go_wp2_with (first | ((with_reducible refine gate_dst (N := 1) rfl ?_); refine box_event ?hg (N := 1) ?hd (cs := #[.string a0_0, .string a0_1, .int .i64 a0_2]) (t := 30) ?hr ?_; (case hd => rfl); (case hg => rfl); (case hr => first | (go_simp; done) | (go_simp; rfl)); intro gb234 hg w22 hbox hb; have n0_ := Aside0.mk (below_step (by repeat (first | (with_reducible first | exact HB.out | apply below_alloc | apply pw_below_drewN | apply below_drew1) | exact HB.out)) hb); have n1_ := Aside0.mk (hbox); have n2_ := Aside0.mk ((by rw [hg]; exact (below_size (by repeat (first | (with_reducible first | exact HB.out | apply below_alloc | apply pw_below_drewN | apply below_drew1) | exact HB.out))) : w.heap.size ≤ gb234)); have n3_ := Aside0.mk ((by rw [hg]; exact (below_size (by repeat (first | (with_reducible first | exact HB.out | apply below_alloc | apply pw_below_drewN | apply below_drew1) | exact HB.out))) : w.heap.size ≤ gb234)); clear HB; have HB := n0_; have BK234 := n1_; have GW234 := n2_; have GE234 := n3_; clear n0_ n1_ n2_ n3_; clear hb hbox hg) | ((with_reducible refine gate_dst (N := 3) rfl ?_); refine box_event ?hg (N := 3) ?hd (cs := #[.string (⟨#[]⟩ : ByteArray), .string (⟨#[]⟩ : ByteArray), .int .i64 0]) (t := 30) ?hr ?_; (case hd => rfl); (case hg => rfl); (case hr => first | (go_simp; done) | (go_simp; rfl)); intro gb235 hg w23 hbox hb; have n0_ := Aside0.mk (blk_below (g := gb234) (o := .cells #[.string a0_0, .string a0_1, .int .i64 a0_2] 30 (0, 0)) (by (with_reducible repeat (first | refine blk_drewN ?_ _ | refine blk_drew ?_ | refine blk_alloc ?_ _)); exact BK234.out) hb); have n1_ := Aside0.mk (below_step (by repeat (first | (with_reducible first | exact HB.out | apply below_alloc | apply pw_below_drewN | apply below_drew1 | refine below_set ?_ GE234.out) | exact HB.out)) hb); have n2_ := Aside0.mk (hbox); have n3_ := Aside0.mk ((by rw [hg]; exact (below_size (by repeat (first | (with_reducible first | exact HB.out | apply below_alloc | apply pw_below_drewN | apply below_drew1 | refine below_set ?_ GE234.out) | exact HB.out))) : w.heap.size ≤ gb235)); have n4_ := Aside0.mk ((by rw [hg]; exact (below_size (by repeat (first | (with_reducible first | exact HB.out | apply below_alloc | apply pw_below_drewN | apply below_drew1 | refine below_set ?_ GE234.out) | exact HB.out))) : w.heap.size ≤ gb235)); have n5_ := Aside0.mk ((by rw [hg]; exact Nat.ne_of_lt (blk_lt (g := gb234) (o := .cells #[.string a0_0, .string a0_1, .int .i64 a0_2] 30 (0, 0)) (by (with_reducible repeat (first | refine blk_drewN ?_ _ | refine blk_drew ?_ | refine blk_alloc ?_ _)); exact BK234.out)) : gb234 ≠ gb235)); have n6_ := Aside0.mk ((by rw [hg]; exact Nat.ne_of_gt (blk_lt (g := gb234) (o := .cells #[.string a0_0, .string a0_1, .int .i64 a0_2] 30 (0, 0)) (by (with_reducible repeat (first | refine blk_drewN ?_ _ | refine blk_drew ?_ | refine blk_alloc ?_ _)); exact BK234.out)) : gb235 ≠ gb234)); clear BK234; clear HB; have BK234 := n0_; have HB := n1_; have BK235 := n2_; have GW235 := n3_; have GE235 := n4_; have NB234_235 := n5_; have NB235_234 := n6_; clear n0_ n1_ n2_ n3_ n4_ n5_ n6_; clear hb hbox hg; have hnb24 := NB234_235.out; have hnc24 := NB235_234.out; have hcz25_0 : w23.cell? ⟨gb234, 0, none⟩ = some (.string a0_0) := (blk_cell BK234.out 0).trans rfl; have hcz25_1 : w23.cell? ⟨gb234, 1, none⟩ = some (.string a0_1) := (blk_cell BK234.out 1).trans rfl; have hcz25_2 : w23.cell? ⟨gb234, 2, none⟩ = some (.int .i64 a0_2) := (blk_cell BK234.out 2).trans rfl; have hfz25_0 := blk_frozen BK234.out 0; have hfz25_1 := blk_frozen BK234.out 1; have hfz25_2 := blk_frozen BK234.out 2) | ((with_reducible refine gate_callee (f := 21) rfl ?_); refine goesL_ (some 8) rfl rfl Try.func21 (by kernel_rfl) rfl #[.agg #[.string a0_0, .string a0_1, .int .i64 a0_2]] rfl (by (try simp only [List.map_toArray, List.map_cons, List.map_nil]); first | done | rfl | (simp only [List.length_drop, List.length_take]; rfl)) ?_; (with_reducible refine (file_May.calls a0_0 a0_1 a0_2 true _ A2.out).mono ?_); rintro e w26 ⟨rfl, hb⟩; refine ⟨_, rfl, ?_⟩; have n0_ := Aside0.mk (blk_below (g := gb234) (o := .cells #[.string a0_0, .string a0_1, .int .i64 a0_2] 30 (0, 0)) (by (with_reducible repeat (first | refine blk_drewN ?_ _ | refine blk_drew ?_ | refine blk_alloc ?_ _)); exact BK234.out) hb); have n1_ := Aside0.mk (blk_below (g := gb235) (o := .cells #[.string (⟨#[]⟩ : ByteArray), .string (⟨#[]⟩ : ByteArray), .int .i64 0] 30 (0, 0)) (by (with_reducible repeat (first | refine blk_drewN ?_ _ | refine blk_drew ?_ | refine blk_alloc ?_ _)); exact BK235.out) hb); have n2_ := Aside0.mk (below_step (by repeat (first | (with_reducible first | exact HB.out | apply below_alloc | apply pw_below_drewN | apply below_drew1 | refine below_set ?_ GE234.out | refine below_set ?_ GE235.out) | exact HB.out)) hb); clear BK234; clear BK235; clear HB; have BK234 := n0_; have BK235 := n1_; have HB := n2_; clear n0_ n1_ n2_; (try clear hb); (try clear hb2); (try clear hk); (try clear hi); have hcz27_0 : w26.cell? ⟨gb234, 0, none⟩ = some (.string a0_0) := (blk_cell BK234.out 0).trans rfl; have hcz27_1 : w26.cell? ⟨gb234, 1, none⟩ = some (.string a0_1) := (blk_cell BK234.out 1).trans rfl; have hcz27_2 : w26.cell? ⟨gb234, 2, none⟩ = some (.int .i64 a0_2) := (blk_cell BK234.out 2).trans rfl; have hfz27_0 := blk_frozen BK234.out 0; have hfz27_1 := blk_frozen BK234.out 1; have hfz27_2 := blk_frozen BK234.out 2))
      have n0_ := Aside0.mk (blk_drew BK234.out)
      have n1_ := Aside0.mk (blk_drew BK235.out)
      have n2_ := Aside0.mk (below_drew1 HB.out)
      clear BK234
      clear BK235
      clear HB
      have BK234 := n0_
      have BK235 := n1_
      have HB := n2_
      clear n0_ n1_ n2_
      refine start_ (n := 4) (S := fun w' => w'.cell? ⟨gb235, 0, none⟩ = some (.string (⟨#[]⟩ : ByteArray)) ∧ w'.cell? ⟨gb235, 1, none⟩ = some (.string (⟨#[]⟩ : ByteArray)) ∧ w'.cell? ⟨gb235, 2, none⟩ = some (.int .i64 0)) (ds := [2]) #[false, false, false, false] (by kernel_rfl) rfl rfl ⟨(blk_cell BK235.out 0).trans rfl, (blk_cell BK235.out 1).trans rfl, (blk_cell BK235.out 2).trans rfl⟩ (fun hHeld => ?_)
      generalize w26.drew = w28 at BK234 BK235 HB hHeld ⊢
      refine pure_ (i := 1) (N := some 2) (v := ?_) (a' := ?_) #[false, true, false, false] rfl rfl (by kernel_rfl) (fun _ _ _ h => h) (Or.inl ⟨by rfl, ?_⟩) ?_ ?_
      rotate_left
      · intro w'
        go_simp
        with_reducible rfl
      rotate_left
      · simp only [Act.put, List.setIfInBounds_toArray, List.set_cons_zero, List.set_cons_succ, i64_w, i32_w]
        rfl
      refine take_ (i := 0) (N := some 15) (v := ?_) (a' := ?_) #[true, true, false, false] rfl rfl (by kernel_rfl) (fun _ _ _ h => h) (Or.inl ⟨by rfl, ?_⟩) hHeld ?_ ?_
      rotate_left
      · rintro w' ⟨s0, s1, s2⟩
        go_simp
        with_reducible rfl
      rotate_left
      · simp only [Act.put, List.setIfInBounds_toArray, List.set_cons_zero, List.set_cons_succ, i64_w, i32_w]
        rfl
      refine last_ (i := 2) (N := none) #[true, true, true, false] rfl rfl (by kernel_rfl) (by decide) (fun K hK => ?_)
      have hs29 : w28.cell? ⟨gb235, 0, none⟩ = some (.string (⟨#[]⟩ : ByteArray)) := (blk_cell BK235.out 0).trans rfl
      have hfs29 := blk_frozen BK235.out 0
      have hns29_0 := NB234_235.out
      have hms29_0 := NB235_234.out
      have hs30 : w28.cell? ⟨gb235, 1, none⟩ = some (.string (⟨#[]⟩ : ByteArray)) := (blk_cell BK235.out 1).trans rfl
      have hfs30 := blk_frozen BK235.out 1
      have hns30_0 := NB234_235.out
      have hms30_0 := NB235_234.out
      have hs31 : w28.cell? ⟨gb235, 2, none⟩ = some (.int .i64 0) := (blk_cell BK235.out 2).trans rfl
      have hfs31 := blk_frozen BK235.out 2
      have hns31_0 := NB234_235.out
      have hms31_0 := NB235_234.out
      refine skip_ (w1 := ?_) (by rfl) rfl ?_ ?_
      rotate_left
      · go_simp
        rfl
      refine hK.out _ _ ?_
      clear hK K
      refine pure_ (i := 3) (N := some 4) (v := ?_) (a' := ?_) #[true, true, true, true] rfl rfl (by kernel_rfl) (fun _ _ _ h => h) (Or.inl ⟨by rfl, ?_⟩) ?_ ?_
      rotate_left
      · intro w'
        go_simp
        with_reducible rfl
      rotate_left
      · simp only [Act.put, List.setIfInBounds_toArray, List.set_cons_zero, List.set_cons_succ, i64_w, i32_w]
        rfl
      refine done_ (by kernel_rfl) ?_
      try go_wp2
      refine bodyPost_ret (results_list (rs := [.tmp 2, .cell 3 30, .tmp 4]) rfl (by simp) (.tmp (.cell gb235 30 #[.string (⟨#[]⟩ : ByteArray), .string (⟨#[]⟩ : ByteArray), .int .i64 0] (0, 0) _ rfl (by (with_reducible repeat (first | refine blk_drewN ?_ _ | refine blk_drew ?_ | refine blk_alloc ?_ _)); refine blk_put (cs := #[.string (⟨#[]⟩ : ByteArray), .string (⟨#[]⟩ : ByteArray), .int .i64 0]) ?_ 2 _ rfl; (with_reducible repeat (first | refine blk_drewN ?_ _ | refine blk_drew ?_ | refine blk_alloc ?_ _)); refine blk_put (cs := #[.string (⟨#[]⟩ : ByteArray), .string (⟨#[]⟩ : ByteArray), .int .i64 0]) ?_ 1 _ rfl; (with_reducible repeat (first | refine blk_drewN ?_ _ | refine blk_drew ?_ | refine blk_alloc ?_ _)); refine blk_put (cs := #[.string (⟨#[]⟩ : ByteArray), .string (⟨#[]⟩ : ByteArray), .int .i64 0]) ?_ 0 _ rfl; (with_reducible repeat (first | refine blk_drewN ?_ _ | refine blk_drew ?_ | refine blk_alloc ?_ _)); exact BK235.out) Try.underlying30 rfl (by kernel_rfl) (.tmp .nil)))) rfl ?_
      exact ⟨_, by first | rfl | (simp [errW_none, errW_some] <;> rfl) | (simp [*, errW_none, errW_some] <;> rfl), by first | exact Kd.S_nil _ _ _ _ _ | exact Kd.N_nil _ _ _ _ _ | exact Kd.V_nil _ _ _ _ _ | exact Kd.Q_nil _ _ _ _ _ | exact Kd.R_nil _ _ _ _ _, by repeat (first | (with_reducible first | exact HB.out | apply below_alloc | apply pw_below_drewN | apply below_drew1 | refine below_set ?_ GE234.out | refine below_set ?_ GE235.out) | exact HB.out)⟩
  · replace c3 := Bool.eq_false_iff.mpr c3
    subst c3
    have H1 : (some (([] : List (S42)), (⟨#[]⟩ : ByteArray), (⟨#[]⟩ : ByteArray), 0, 1)) = some (r1, r2, r3, r4, r5) := by rw [if_neg (show ¬ (false = true) by decide)] at H; exact H
    clear H
    have H := H1
    clear H1
    simp only [Option.some.injEq, Prod.mk.injEq] at H
    obtain ⟨rfl, rfl, rfl, rfl, rfl⟩ := H
    go_enter Try.func12, Try.ntmps12
    try go_wp2_with (first | ((with_reducible refine gate_dst (N := 1) rfl ?_); refine box_event ?hg (N := 1) ?hd (cs := #[.string a0_0, .string a0_1, .int .i64 a0_2]) (t := 30) ?hr ?_; (case hd => rfl); (case hg => rfl); (case hr => first | (go_simp; done) | (go_simp; rfl)); intro gb234 hg w32 hbox hb; have n0_ := Aside0.mk (below_step (by repeat (first | (with_reducible first | exact HB.out | apply below_alloc | apply pw_below_drewN | apply below_drew1) | exact HB.out)) hb); have n1_ := Aside0.mk (hbox); have n2_ := Aside0.mk ((by rw [hg]; exact (below_size (by repeat (first | (with_reducible first | exact HB.out | apply below_alloc | apply pw_below_drewN | apply below_drew1) | exact HB.out))) : w.heap.size ≤ gb234)); have n3_ := Aside0.mk ((by rw [hg]; exact (below_size (by repeat (first | (with_reducible first | exact HB.out | apply below_alloc | apply pw_below_drewN | apply below_drew1) | exact HB.out))) : w.heap.size ≤ gb234)); clear HB; have HB := n0_; have BK234 := n1_; have GW234 := n2_; have GE234 := n3_; clear n0_ n1_ n2_ n3_; clear hb hbox hg) | ((with_reducible refine gate_dst (N := 3) rfl ?_); refine box_event ?hg (N := 3) ?hd (cs := #[.string (⟨#[]⟩ : ByteArray), .string (⟨#[]⟩ : ByteArray), .int .i64 0]) (t := 30) ?hr ?_; (case hd => rfl); (case hg => rfl); (case hr => first | (go_simp; done) | (go_simp; rfl)); intro gb235 hg w33 hbox hb; have n0_ := Aside0.mk (blk_below (g := gb234) (o := .cells #[.string a0_0, .string a0_1, .int .i64 a0_2] 30 (0, 0)) (by (with_reducible repeat (first | refine blk_drewN ?_ _ | refine blk_drew ?_ | refine blk_alloc ?_ _)); exact BK234.out) hb); have n1_ := Aside0.mk (below_step (by repeat (first | (with_reducible first | exact HB.out | apply below_alloc | apply pw_below_drewN | apply below_drew1 | refine below_set ?_ GE234.out) | exact HB.out)) hb); have n2_ := Aside0.mk (hbox); have n3_ := Aside0.mk ((by rw [hg]; exact (below_size (by repeat (first | (with_reducible first | exact HB.out | apply below_alloc | apply pw_below_drewN | apply below_drew1 | refine below_set ?_ GE234.out) | exact HB.out))) : w.heap.size ≤ gb235)); have n4_ := Aside0.mk ((by rw [hg]; exact (below_size (by repeat (first | (with_reducible first | exact HB.out | apply below_alloc | apply pw_below_drewN | apply below_drew1 | refine below_set ?_ GE234.out) | exact HB.out))) : w.heap.size ≤ gb235)); have n5_ := Aside0.mk ((by rw [hg]; exact Nat.ne_of_lt (blk_lt (g := gb234) (o := .cells #[.string a0_0, .string a0_1, .int .i64 a0_2] 30 (0, 0)) (by (with_reducible repeat (first | refine blk_drewN ?_ _ | refine blk_drew ?_ | refine blk_alloc ?_ _)); exact BK234.out)) : gb234 ≠ gb235)); have n6_ := Aside0.mk ((by rw [hg]; exact Nat.ne_of_gt (blk_lt (g := gb234) (o := .cells #[.string a0_0, .string a0_1, .int .i64 a0_2] 30 (0, 0)) (by (with_reducible repeat (first | refine blk_drewN ?_ _ | refine blk_drew ?_ | refine blk_alloc ?_ _)); exact BK234.out)) : gb235 ≠ gb234)); clear BK234; clear HB; have BK234 := n0_; have HB := n1_; have BK235 := n2_; have GW235 := n3_; have GE235 := n4_; have NB234_235 := n5_; have NB235_234 := n6_; clear n0_ n1_ n2_ n3_ n4_ n5_ n6_; clear hb hbox hg; have hnb34 := NB234_235.out; have hnc34 := NB235_234.out; have hcz35_0 : w33.cell? ⟨gb234, 0, none⟩ = some (.string a0_0) := (blk_cell BK234.out 0).trans rfl; have hcz35_1 : w33.cell? ⟨gb234, 1, none⟩ = some (.string a0_1) := (blk_cell BK234.out 1).trans rfl; have hcz35_2 : w33.cell? ⟨gb234, 2, none⟩ = some (.int .i64 a0_2) := (blk_cell BK234.out 2).trans rfl; have hfz35_0 := blk_frozen BK234.out 0; have hfz35_1 := blk_frozen BK234.out 1; have hfz35_2 := blk_frozen BK234.out 2) | ((with_reducible refine gate_callee (f := 21) rfl ?_); refine goesL_ (some 8) rfl rfl Try.func21 (by kernel_rfl) rfl #[.agg #[.string a0_0, .string a0_1, .int .i64 a0_2]] rfl (by (try simp only [List.map_toArray, List.map_cons, List.map_nil]); first | done | rfl | (simp only [List.length_drop, List.length_take]; rfl)) ?_; (with_reducible refine (file_May.calls a0_0 a0_1 a0_2 false _ A2.out).mono ?_); rintro e w36 ⟨rfl, hb⟩; refine ⟨_, rfl, ?_⟩; have n0_ := Aside0.mk (blk_below (g := gb234) (o := .cells #[.string a0_0, .string a0_1, .int .i64 a0_2] 30 (0, 0)) (by (with_reducible repeat (first | refine blk_drewN ?_ _ | refine blk_drew ?_ | refine blk_alloc ?_ _)); exact BK234.out) hb); have n1_ := Aside0.mk (blk_below (g := gb235) (o := .cells #[.string (⟨#[]⟩ : ByteArray), .string (⟨#[]⟩ : ByteArray), .int .i64 0] 30 (0, 0)) (by (with_reducible repeat (first | refine blk_drewN ?_ _ | refine blk_drew ?_ | refine blk_alloc ?_ _)); exact BK235.out) hb); have n2_ := Aside0.mk (below_step (by repeat (first | (with_reducible first | exact HB.out | apply below_alloc | apply pw_below_drewN | apply below_drew1 | refine below_set ?_ GE234.out | refine below_set ?_ GE235.out) | exact HB.out)) hb); clear BK234; clear BK235; clear HB; have BK234 := n0_; have BK235 := n1_; have HB := n2_; clear n0_ n1_ n2_; (try clear hb); (try clear hb2); (try clear hk); (try clear hi)))
    have n0_ := Aside0.mk (blk_drew BK234.out)
    have n1_ := Aside0.mk (blk_drew BK235.out)
    have n2_ := Aside0.mk (below_drew1 HB.out)
    clear BK234
    clear BK235
    clear HB
    have BK234 := n0_
    have BK235 := n1_
    have HB := n2_
    clear n0_ n1_ n2_
    refine start_ (n := 4) (S := fun w' => w'.cell? ⟨gb235, 0, none⟩ = some (.string (⟨#[]⟩ : ByteArray)) ∧ w'.cell? ⟨gb235, 1, none⟩ = some (.string (⟨#[]⟩ : ByteArray)) ∧ w'.cell? ⟨gb235, 2, none⟩ = some (.int .i64 0)) (ds := [2]) #[false, false, false, false] (by kernel_rfl) rfl rfl ⟨(blk_cell BK235.out 0).trans rfl, (blk_cell BK235.out 1).trans rfl, (blk_cell BK235.out 2).trans rfl⟩ (fun hHeld => ?_)
    generalize w36.drew = w37 at BK234 BK235 HB hHeld ⊢
    refine pure_ (i := 1) (N := some 2) (v := ?_) (a' := ?_) #[false, true, false, false] rfl rfl (by kernel_rfl) (fun _ _ _ h => h) (Or.inl ⟨by rfl, ?_⟩) ?_ ?_
    rotate_left
    · intro w'
      go_simp
      with_reducible rfl
    rotate_left
    · simp only [Act.put, List.setIfInBounds_toArray, List.set_cons_zero, List.set_cons_succ, i64_w, i32_w]
      rfl
    refine take_ (i := 0) (N := some 10) (v := ?_) (a' := ?_) #[true, true, false, false] rfl rfl (by kernel_rfl) (fun _ _ _ h => h) (Or.inl ⟨by rfl, ?_⟩) hHeld ?_ ?_
    rotate_left
    · rintro w' ⟨s0, s1, s2⟩
      go_simp
      with_reducible rfl
    rotate_left
    · simp only [Act.put, List.setIfInBounds_toArray, List.set_cons_zero, List.set_cons_succ, i64_w, i32_w]
      rfl
    refine last_ (i := 2) (N := none) #[true, true, true, false] rfl rfl (by kernel_rfl) (by decide) (fun K hK => ?_)
    have hs38 : w37.cell? ⟨gb235, 0, none⟩ = some (.string (⟨#[]⟩ : ByteArray)) := (blk_cell BK235.out 0).trans rfl
    have hfs38 := blk_frozen BK235.out 0
    have hns38_0 := NB234_235.out
    have hms38_0 := NB235_234.out
    have hs39 : w37.cell? ⟨gb235, 1, none⟩ = some (.string (⟨#[]⟩ : ByteArray)) := (blk_cell BK235.out 1).trans rfl
    have hfs39 := blk_frozen BK235.out 1
    have hns39_0 := NB234_235.out
    have hms39_0 := NB235_234.out
    have hs40 : w37.cell? ⟨gb235, 2, none⟩ = some (.int .i64 0) := (blk_cell BK235.out 2).trans rfl
    have hfs40 := blk_frozen BK235.out 2
    have hns40_0 := NB234_235.out
    have hms40_0 := NB235_234.out
    refine skip_ (w1 := ?_) (by rfl) rfl ?_ ?_
    rotate_left
    · go_simp
      rfl
    refine hK.out _ _ ?_
    clear hK K
    refine pure_ (i := 3) (N := some 4) (v := ?_) (a' := ?_) #[true, true, true, true] rfl rfl (by kernel_rfl) (fun _ _ _ h => h) (Or.inl ⟨by rfl, ?_⟩) ?_ ?_
    rotate_left
    · intro w'
      go_simp
      with_reducible rfl
    rotate_left
    · simp only [Act.put, List.setIfInBounds_toArray, List.set_cons_zero, List.set_cons_succ, i64_w, i32_w]
      rfl
    refine done_ (by kernel_rfl) ?_
    try go_wp2
    refine bodyPost_ret (results_list (rs := [.tmp 2, .cell 3 30, .tmp 4]) rfl (by simp) (.tmp (.cell gb235 30 #[.string (⟨#[]⟩ : ByteArray), .string (⟨#[]⟩ : ByteArray), .int .i64 0] (0, 0) _ rfl (by (with_reducible repeat (first | refine blk_drewN ?_ _ | refine blk_drew ?_ | refine blk_alloc ?_ _)); refine blk_put (cs := #[.string (⟨#[]⟩ : ByteArray), .string (⟨#[]⟩ : ByteArray), .int .i64 0]) ?_ 2 _ rfl; (with_reducible repeat (first | refine blk_drewN ?_ _ | refine blk_drew ?_ | refine blk_alloc ?_ _)); refine blk_put (cs := #[.string (⟨#[]⟩ : ByteArray), .string (⟨#[]⟩ : ByteArray), .int .i64 0]) ?_ 1 _ rfl; (with_reducible repeat (first | refine blk_drewN ?_ _ | refine blk_drew ?_ | refine blk_alloc ?_ _)); refine blk_put (cs := #[.string (⟨#[]⟩ : ByteArray), .string (⟨#[]⟩ : ByteArray), .int .i64 0]) ?_ 0 _ rfl; (with_reducible repeat (first | refine blk_drewN ?_ _ | refine blk_drew ?_ | refine blk_alloc ?_ _)); exact BK235.out) Try.underlying30 rfl (by kernel_rfl) (.tmp .nil)))) rfl ?_
    exact ⟨_, by first | rfl | (simp [errW_none, errW_some] <;> rfl) | (simp [*, errW_none, errW_some] <;> rfl), by first | exact Kd.S_nil _ _ _ _ _ | exact Kd.N_nil _ _ _ _ _ | exact Kd.V_nil _ _ _ _ _ | exact Kd.Q_nil _ _ _ _ _ | exact Kd.R_nil _ _ _ _ _, by repeat (first | (with_reducible first | exact HB.out | apply below_alloc | apply pw_below_drewN | apply below_drew1 | refine below_set ?_ GE234.out | refine below_set ?_ GE235.out) | exact HB.out)⟩
end Go.Proofs.Ytmhjhhlgdenlkaa.P
namespace Go.Proofs.Ytmhjhhlgdenlkaa.P
open Go.RowKit Go.Proofs.YtmhjhhlgdenlkaaW.PrintWords Go.Proofs.YtmhjhhlgdenlkaaW.PrintLast Go.Proofs.YtmhjhhlgdenlkaaW.PrintMore
attribute [local go_sem] max2_int min2_int max_two min_two
set_option linter.unusedVariables false
set_option linter.unusedSimpArgs false
attribute [local go_sem high] eqA30
def amanuensislaw13_wakes.f (k : Nat)  : Option (Bool) := (journal_Append.f k (⟨#[]⟩ : ByteArray) (⟨#[]⟩ : ByteArray) 99 4 1 0 (⟨#[]⟩ : ByteArray) (⟨#[]⟩ : ByteArray) ([] : List (S80))).bind fun bt253 => ((file_Sync.f bt253.1 bt253.2.1 bt253.2.2.1).bind fun bt258 => ((journal_Recover.f k bt258.1 bt258.2.1 bt258.2.2.1).bind fun bt262 => ((amanuensislaw13_num.f bt253.2.2.2).bind fun t270 => (if t270 = 0 then ((amanuensislaw13_num.f bt258.2.2.2).bind fun t271 => (if t271 = 0 then ((amanuensislaw13_num.f bt262.2.2.2.2).bind fun t272 => (if t272 = 0 then (if (bt262.1.length : Int) = 1 then (some (bt262.2.1.toList == bt258.1.toList && (bt262.2.2.1.toList == bt258.2.1.toList && (bt262.2.2.2.1 == bt258.2.2.1)))) else (some false)) else (some false))) else (some false))) else (some false)))))
set_option maxHeartbeats 8000000 in
set_option maxRecDepth 100000 in
theorem amanuensislaw13_wakes.calls (k : Nat)  (r : Bool) (w : World) (h : amanuensislaw13_wakes.f k  = some r) :
    Calls Try.prog 14 #[] w fun e w' => e = .returned (.bool r) ∧ Below w.heap.size w w' := by
  have hu30 := Try.underlying30
  have hu42 := Try.underlying42
  have HB := Aside0.mk (Below.refl w.heap.size w)
  have H : ((journal_Append.f k (⟨#[]⟩ : ByteArray) (⟨#[]⟩ : ByteArray) 99 4 1 0 (⟨#[]⟩ : ByteArray) (⟨#[]⟩ : ByteArray) ([] : List (S80))).bind fun bt253 => ((file_Sync.f bt253.1 bt253.2.1 bt253.2.2.1).bind fun bt258 => ((journal_Recover.f k bt258.1 bt258.2.1 bt258.2.2.1).bind fun bt262 => ((amanuensislaw13_num.f bt253.2.2.2).bind fun t270 => (if t270 = 0 then ((amanuensislaw13_num.f bt258.2.2.2).bind fun t271 => (if t271 = 0 then ((amanuensislaw13_num.f bt262.2.2.2.2).bind fun t272 => (if t272 = 0 then (if (bt262.1.length : Int) = 1 then (some (bt262.2.1.toList == bt258.1.toList && (bt262.2.2.1.toList == bt258.2.1.toList && (bt262.2.2.2.1 == bt258.2.2.1)))) else (some false)) else (some false))) else (some false))) else (some false)))))) = some r := h
  clear h
  replace H := Option.bind_eq_some_iff.mp H
  obtain ⟨⟨t253, t254, t255, t256⟩, A10, H⟩ := H
  replace H : ((file_Sync.f t253 t254 t255).bind fun bt258 => ((journal_Recover.f k bt258.1 bt258.2.1 bt258.2.2.1).bind fun bt262 => ((amanuensislaw13_num.f t256).bind fun t270 => (if t270 = 0 then ((amanuensislaw13_num.f bt258.2.2.2).bind fun t271 => (if t271 = 0 then ((amanuensislaw13_num.f bt262.2.2.2.2).bind fun t272 => (if t272 = 0 then (if (bt262.1.length : Int) = 1 then (some (bt262.2.1.toList == bt258.1.toList && (bt262.2.2.1.toList == bt258.2.1.toList && (bt262.2.2.2.1 == bt258.2.2.1)))) else (some false)) else (some false))) else (some false))) else (some false))))) = some r := H
  have A1 := Aside0.mk A10
  clear A10
  replace H := Option.bind_eq_some_iff.mp H
  obtain ⟨⟨t258, t259, t260, t261⟩, A20, H⟩ := H
  replace H : ((journal_Recover.f k t258 t259 t260).bind fun bt262 => ((amanuensislaw13_num.f t256).bind fun t270 => (if t270 = 0 then ((amanuensislaw13_num.f t261).bind fun t271 => (if t271 = 0 then ((amanuensislaw13_num.f bt262.2.2.2.2).bind fun t272 => (if t272 = 0 then (if (bt262.1.length : Int) = 1 then (some (bt262.2.1.toList == t258.toList && (bt262.2.2.1.toList == t259.toList && (bt262.2.2.2.1 == t260)))) else (some false)) else (some false))) else (some false))) else (some false)))) = some r := H
  have A2 := Aside0.mk A20
  clear A20
  replace H := Option.bind_eq_some_iff.mp H
  obtain ⟨⟨t262, t265, t266, t267, t268⟩, A30, H⟩ := H
  replace H : ((amanuensislaw13_num.f t256).bind fun t270 => (if t270 = 0 then ((amanuensislaw13_num.f t261).bind fun t271 => (if t271 = 0 then ((amanuensislaw13_num.f t268).bind fun t272 => (if t272 = 0 then (if (t262.length : Int) = 1 then (some (t265.toList == t258.toList && (t266.toList == t259.toList && (t267 == t260)))) else (some false)) else (some false))) else (some false))) else (some false))) = some r := H
  have A3 := Aside0.mk A30
  clear A30
  replace H := Option.bind_eq_some_iff.mp H
  obtain ⟨t270, A40, H⟩ := H
  replace H : (if t270 = 0 then ((amanuensislaw13_num.f t261).bind fun t271 => (if t271 = 0 then ((amanuensislaw13_num.f t268).bind fun t272 => (if t272 = 0 then (if (t262.length : Int) = 1 then (some (t265.toList == t258.toList && (t266.toList == t259.toList && (t267 == t260)))) else (some false)) else (some false))) else (some false))) else (some false)) = some r := H
  have A4 := Aside0.mk A40
  clear A40
  by_cases c5 : t270 = 0
  · rw [if_pos c5] at H
    have c5b0 : (t270 == 0) = true := beq_iff_eq.mpr c5
    have c5b1 : (t270 != 0) = false := bne_eq_false_iff_eq.mpr c5
    clear c5
    replace H := Option.bind_eq_some_iff.mp H
    obtain ⟨t271, A60, H⟩ := H
    replace H : (if t271 = 0 then ((amanuensislaw13_num.f t268).bind fun t272 => (if t272 = 0 then (if (t262.length : Int) = 1 then (some (t265.toList == t258.toList && (t266.toList == t259.toList && (t267 == t260)))) else (some false)) else (some false))) else (some false)) = some r := H
    have A6 := Aside0.mk A60
    clear A60
    by_cases c7 : t271 = 0
    · rw [if_pos c7] at H
      have c7b0 : (t271 == 0) = true := beq_iff_eq.mpr c7
      have c7b1 : (t271 != 0) = false := bne_eq_false_iff_eq.mpr c7
      clear c7
      replace H := Option.bind_eq_some_iff.mp H
      obtain ⟨t272, A80, H⟩ := H
      replace H : (if t272 = 0 then (if (t262.length : Int) = 1 then (some (t265.toList == t258.toList && (t266.toList == t259.toList && (t267 == t260)))) else (some false)) else (some false)) = some r := H
      have A8 := Aside0.mk A80
      clear A80
      by_cases c9 : t272 = 0
      · rw [if_pos c9] at H
        have c9b0 : (t272 == 0) = true := beq_iff_eq.mpr c9
        have c9b1 : (t272 != 0) = false := bne_eq_false_iff_eq.mpr c9
        clear c9
        by_cases c10 : (t262.length : Int) = 1
        · rw [if_pos c10] at H
          have c10b0 : ((t262.length : Int) == 1) = true := beq_iff_eq.mpr c10
          have c10b1 : ((t262.length : Int) != 1) = false := bne_eq_false_iff_eq.mpr c10
          clear c10
          obtain rfl := Option.some.inj H
          go_enter Try.func14, Try.ntmps14
          go_wp2_with (first | ((with_reducible refine gate_callee (f := 7) rfl ?_); refine goesL_ (some 10) rfl rfl Try.func7 (by kernel_rfl) rfl #[.agg #[.string (⟨#[]⟩ : ByteArray), .string (⟨#[]⟩ : ByteArray), .int .i64 99], .agg #[.int .i64 4, .int .i64 1, .int .i64 0, .string (⟨#[]⟩ : ByteArray), .string (⟨#[]⟩ : ByteArray), .slice none 0 0]] rfl (by (try simp only [List.map_toArray, List.map_cons, List.map_nil]); first | done | rfl | (simp only [List.length_drop, List.length_take]; rfl)) ?_; (refine (journal_Append.calls k (⟨#[]⟩ : ByteArray) (⟨#[]⟩ : ByteArray) 99 4 1 0 (⟨#[]⟩ : ByteArray) (⟨#[]⟩ : ByteArray) _ _ ([] : List (S80)) t253 t254 t255 t256 _ ?side1 ?side2 A1.out).mono ?_); (case side1 => exact Kd.C_nil _ _); (case side2 => exact Nat.le_refl _); rintro e w11 ⟨rfl, hb⟩; refine ⟨_, rfl, ?_⟩; have n0_ := Aside0.mk (below_step (by repeat (first | (with_reducible first | exact HB.out | apply below_alloc | apply pw_below_drewN | apply below_drew1) | exact HB.out)) hb); clear HB; have HB := n0_; clear n0_; (try clear hb); (try clear hb2); (try clear hk); (try clear hi)) | ((with_reducible refine gate_dst (N := 1) rfl ?_); (try (refine gate_guard (by rfl) ?_; dsimp only)); refine box_event ?hg (N := 1) ?hd (cs := #[.string (⟨#[]⟩ : ByteArray), .string (⟨#[]⟩ : ByteArray), .int .i64 0]) (t := 30) ?hr ?_; (case hd => rfl); (case hg => rfl); (case hr => first | (go_simp; done) | (go_simp; rfl)); intro gb257 hg w12 hbox hb; have n0_ := Aside0.mk (below_step (by repeat (first | (with_reducible first | exact HB.out | apply below_alloc | apply pw_below_drewN | apply below_drew1) | exact HB.out)) hb); have n1_ := Aside0.mk (hbox); have n2_ := Aside0.mk ((by rw [hg]; exact (below_size (by repeat (first | (with_reducible first | exact HB.out | apply below_alloc | apply pw_below_drewN | apply below_drew1) | exact HB.out))) : w.heap.size ≤ gb257)); have n3_ := Aside0.mk ((by rw [hg]; exact (below_size (by repeat (first | (with_reducible first | exact HB.out | apply below_alloc | apply pw_below_drewN | apply below_drew1) | exact HB.out))) : w.heap.size ≤ gb257)); clear HB; have HB := n0_; have BK257 := n1_; have GW257 := n2_; have GE257 := n3_; clear n0_ n1_ n2_ n3_; clear hb hbox hg; have hcz13_0 : w12.cell? ⟨gb257, 0, none⟩ = some (.string (⟨#[]⟩ : ByteArray)) := (blk_cell BK257.out 0).trans rfl; have hcz13_1 : w12.cell? ⟨gb257, 1, none⟩ = some (.string (⟨#[]⟩ : ByteArray)) := (blk_cell BK257.out 1).trans rfl; have hcz13_2 : w12.cell? ⟨gb257, 2, none⟩ = some (.int .i64 0) := (blk_cell BK257.out 2).trans rfl; have hfz13_0 := blk_frozen BK257.out 0; have hfz13_1 := blk_frozen BK257.out 1; have hfz13_2 := blk_frozen BK257.out 2) | ((with_reducible refine gate_callee (f := 9) rfl ?_); refine goesL_ (some 15) rfl rfl Try.func9 (by kernel_rfl) rfl #[.agg #[.string t253, .string t254, .int .i64 t255]] rfl (by (try simp only [List.map_toArray, List.map_cons, List.map_nil]); first | done | rfl | (simp only [List.length_drop, List.length_take]; rfl)) ?_; (with_reducible refine (file_Sync.calls t253 t254 t255 t258 t259 t260 t261 _ A2.out).mono ?_); rintro e w14 ⟨rfl, hb⟩; refine ⟨_, rfl, ?_⟩; have n0_ := Aside0.mk (blk_below (g := gb257) (o := .cells #[.string t253, .string t254, .int .i64 t255] 30 (0, 0)) (by (with_reducible repeat (first | refine blk_drewN ?_ _ | refine blk_drew ?_ | refine blk_alloc ?_ _)); refine blk_put (cs := #[.string t253, .string t254, .int .i64 0]) ?_ 2 _ rfl; (with_reducible repeat (first | refine blk_drewN ?_ _ | refine blk_drew ?_ | refine blk_alloc ?_ _)); refine blk_put (cs := #[.string t253, .string (⟨#[]⟩ : ByteArray), .int .i64 0]) ?_ 1 _ rfl; (with_reducible repeat (first | refine blk_drewN ?_ _ | refine blk_drew ?_ | refine blk_alloc ?_ _)); refine blk_put (cs := #[.string (⟨#[]⟩ : ByteArray), .string (⟨#[]⟩ : ByteArray), .int .i64 0]) ?_ 0 _ rfl; (with_reducible repeat (first | refine blk_drewN ?_ _ | refine blk_drew ?_ | refine blk_alloc ?_ _)); exact BK257.out) hb); have n1_ := Aside0.mk (below_step (by repeat (first | (with_reducible first | exact HB.out | apply below_alloc | apply pw_below_drewN | apply below_drew1 | refine below_set ?_ GE257.out) | exact HB.out)) hb); clear BK257; clear HB; have BK257 := n0_; have HB := n1_; clear n0_ n1_; (try clear hb); (try clear hb2); (try clear hk); (try clear hi); have hcz15_0 : w14.cell? ⟨gb257, 0, none⟩ = some (.string t253) := (blk_cell BK257.out 0).trans rfl; have hcz15_1 : w14.cell? ⟨gb257, 1, none⟩ = some (.string t254) := (blk_cell BK257.out 1).trans rfl; have hcz15_2 : w14.cell? ⟨gb257, 2, none⟩ = some (.int .i64 t255) := (blk_cell BK257.out 2).trans rfl; have hfz15_0 := blk_frozen BK257.out 0; have hfz15_1 := blk_frozen BK257.out 1; have hfz15_2 := blk_frozen BK257.out 2) | ((with_reducible refine gate_callee (f := 12) rfl ?_); refine goesL_ (some 20) rfl rfl Try.func12 (by kernel_rfl) rfl #[.agg #[.string t258, .string t259, .int .i64 t260]] rfl (by (try simp only [List.map_toArray, List.map_cons, List.map_nil]); first | done | rfl | (simp only [List.length_drop, List.length_take]; rfl)) ?_; (with_reducible refine (journal_Recover.calls k t258 t259 t260 t262 t265 t266 t267 t268 _ A3.out).mono ?_); rintro e w16 ⟨v263, rfl, ho0, hb⟩; refine ⟨_, rfl, ?_⟩; have n0_ := Aside0.mk (Kd.S_lower ho0 (below_size (by repeat (first | (with_reducible first | exact HB.out | apply below_alloc | apply pw_below_drewN | apply below_drew1 | refine below_set ?_ GE257.out) | exact HB.out)))); have n1_ := Aside0.mk (blk_below (g := gb257) (o := .cells #[.string t258, .string t259, .int .i64 t260] 30 (0, 0)) (by (with_reducible repeat (first | refine blk_drewN ?_ _ | refine blk_drew ?_ | refine blk_alloc ?_ _)); refine blk_put (cs := #[.string t258, .string t259, .int .i64 t255]) ?_ 2 _ rfl; (with_reducible repeat (first | refine blk_drewN ?_ _ | refine blk_drew ?_ | refine blk_alloc ?_ _)); refine blk_put (cs := #[.string t258, .string t254, .int .i64 t255]) ?_ 1 _ rfl; (with_reducible repeat (first | refine blk_drewN ?_ _ | refine blk_drew ?_ | refine blk_alloc ?_ _)); refine blk_put (cs := #[.string t253, .string t254, .int .i64 t255]) ?_ 0 _ rfl; (with_reducible repeat (first | refine blk_drewN ?_ _ | refine blk_drew ?_ | refine blk_alloc ?_ _)); exact BK257.out) hb); have n2_ := Aside0.mk (below_step (by repeat (first | (with_reducible first | exact HB.out | apply below_alloc | apply pw_below_drewN | apply below_drew1 | refine below_set ?_ GE257.out) | exact HB.out)) hb); clear BK257; clear HB; have HO264 := n0_; have BK257 := n1_; have HB := n2_; clear n0_ n1_ n2_; (try clear hb); (try clear hb2); (try clear hk); (try clear hi); (try clear ho0)) | ((with_reducible refine gate_dst (N := 5) rfl ?_); (try (refine gate_guard (by rfl) ?_; dsimp only)); refine box_event ?hg (N := 5) ?hd (cs := #[.string (⟨#[]⟩ : ByteArray), .string (⟨#[]⟩ : ByteArray), .int .i64 0]) (t := 30) ?hr ?_; (case hd => rfl); (case hg => rfl); (case hr => first | (go_simp; done) | (go_simp; rfl)); intro gb269 hg w17 hbox hb; have n0_ := Aside0.mk (Kd.S_below (by (with_reducible repeat (first | apply Kd.S_alloc | apply Kd.S_drewN | apply Kd.S_drew)); exact HO264.out) hb); have n1_ := Aside0.mk (blk_below (g := gb257) (o := .cells #[.string t258, .string t259, .int .i64 t260] 30 (0, 0)) (by (with_reducible repeat (first | refine blk_drewN ?_ _ | refine blk_drew ?_ | refine blk_alloc ?_ _)); exact BK257.out) hb); have n2_ := Aside0.mk (below_step (by repeat (first | (with_reducible first | exact HB.out | apply below_alloc | apply pw_below_drewN | apply below_drew1 | refine below_set ?_ GE257.out) | exact HB.out)) hb); have n3_ := Aside0.mk (hbox); have n4_ := Aside0.mk ((by rw [hg]; exact (below_size (by repeat (first | (with_reducible first | exact HB.out | apply below_alloc | apply pw_below_drewN | apply below_drew1 | refine below_set ?_ GE257.out) | exact HB.out))) : w.heap.size ≤ gb269)); have n5_ := Aside0.mk ((by rw [hg]; exact (below_size (by repeat (first | (with_reducible first | exact HB.out | apply below_alloc | apply pw_below_drewN | apply below_drew1 | refine below_set ?_ GE257.out) | exact HB.out))) : w.heap.size ≤ gb269)); have n6_ := Aside0.mk ((by rw [hg]; exact Nat.ne_of_lt (blk_lt (g := gb257) (o := .cells #[.string t258, .string t259, .int .i64 t260] 30 (0, 0)) (by (with_reducible repeat (first | refine blk_drewN ?_ _ | refine blk_drew ?_ | refine blk_alloc ?_ _)); exact BK257.out)) : gb257 ≠ gb269)); have n7_ := Aside0.mk ((by rw [hg]; exact Nat.ne_of_gt (blk_lt (g := gb257) (o := .cells #[.string t258, .string t259, .int .i64 t260] 30 (0, 0)) (by (with_reducible repeat (first | refine blk_drewN ?_ _ | refine blk_drew ?_ | refine blk_alloc ?_ _)); exact BK257.out)) : gb269 ≠ gb257)); clear HO264; clear BK257; clear HB; have HO264 := n0_; have BK257 := n1_; have HB := n2_; have BK269 := n3_; have GW269 := n4_; have GE269 := n5_; have NB257_269 := n6_; have NB269_257 := n7_; clear n0_ n1_ n2_ n3_ n4_ n5_ n6_ n7_; clear hb hbox hg; have hnb18 := NB269_257.out; have hnc18 := NB257_269.out; have hcz19_0 : w17.cell? ⟨gb269, 0, none⟩ = some (.string (⟨#[]⟩ : ByteArray)) := (blk_cell BK269.out 0).trans rfl; have hcz19_1 : w17.cell? ⟨gb269, 1, none⟩ = some (.string (⟨#[]⟩ : ByteArray)) := (blk_cell BK269.out 1).trans rfl; have hcz19_2 : w17.cell? ⟨gb269, 2, none⟩ = some (.int .i64 0) := (blk_cell BK269.out 2).trans rfl; have hfz19_0 := blk_frozen BK269.out 0; have hfz19_1 := blk_frozen BK269.out 1; have hfz19_2 := blk_frozen BK269.out 2) | ((with_reducible refine gate_callee (f := 8) rfl ?_); refine goesL_ (some 25) rfl rfl Try.func8 (by kernel_rfl) rfl #[.int .i64 t256] rfl (by (try simp only [List.map_toArray, List.map_cons, List.map_nil]); first | done | rfl | (simp only [List.length_drop, List.length_take]; rfl)) ?_; (with_reducible refine (amanuensislaw13_num.calls t256 t270 _ A4.out).mono ?_); rintro e w' ⟨rfl, ⟨nd, rfl⟩⟩; refine ⟨_, rfl, ?_⟩) | (go_at_call 8; (with_reducible refine (amanuensislaw13_num.calls t261 t271 _ A6.out).mono ?_); rintro e w' ⟨rfl, ⟨nd, rfl⟩⟩) | (go_at_call 8; (with_reducible refine (amanuensislaw13_num.calls t268 t272 _ A8.out).mono ?_); rintro e w' ⟨rfl, ⟨nd, rfl⟩⟩; obtain ⟨Ao20, co20, eo20⟩ := Kd.S_slice HO264.out; subst eo20; have hcz21_0 : w17.cell? ⟨gb257, 0, none⟩ = some (.string t258) := (blk_cell BK257.out 0).trans rfl; have hcz21_1 : w17.cell? ⟨gb257, 1, none⟩ = some (.string t259) := (blk_cell BK257.out 1).trans rfl; have hcz21_2 : w17.cell? ⟨gb257, 2, none⟩ = some (.int .i64 t260) := (blk_cell BK257.out 2).trans rfl; have hfz21_0 := blk_frozen BK257.out 0; have hfz21_1 := blk_frozen BK257.out 1; have hfz21_2 := blk_frozen BK257.out 2))
          go_ret
          exact ⟨by first | rfl | (simp [errW_none, errW_some] <;> rfl) | (simp [*, errW_none, errW_some] <;> rfl), by repeat (first | (with_reducible first | exact HB.out | apply below_alloc | apply pw_below_drewN | apply below_drew1 | refine below_set ?_ GE257.out | refine below_set ?_ GE269.out) | exact HB.out)⟩
        · rw [if_neg c10] at H
          have c10b0 : ((t262.length : Int) == 1) = false := beq_eq_false_iff_ne.mpr c10
          have c10b1 : ((t262.length : Int) != 1) = true := bne_iff_ne.mpr c10
          obtain rfl := Option.some.inj H
          go_enter Try.func14, Try.ntmps14
          go_wp2_with (first | ((with_reducible refine gate_callee (f := 7) rfl ?_); refine goesL_ (some 10) rfl rfl Try.func7 (by kernel_rfl) rfl #[.agg #[.string (⟨#[]⟩ : ByteArray), .string (⟨#[]⟩ : ByteArray), .int .i64 99], .agg #[.int .i64 4, .int .i64 1, .int .i64 0, .string (⟨#[]⟩ : ByteArray), .string (⟨#[]⟩ : ByteArray), .slice none 0 0]] rfl (by (try simp only [List.map_toArray, List.map_cons, List.map_nil]); first | done | rfl | (simp only [List.length_drop, List.length_take]; rfl)) ?_; (refine (journal_Append.calls k (⟨#[]⟩ : ByteArray) (⟨#[]⟩ : ByteArray) 99 4 1 0 (⟨#[]⟩ : ByteArray) (⟨#[]⟩ : ByteArray) _ _ ([] : List (S80)) t253 t254 t255 t256 _ ?side1 ?side2 A1.out).mono ?_); (case side1 => exact Kd.C_nil _ _); (case side2 => exact Nat.le_refl _); rintro e w22 ⟨rfl, hb⟩; refine ⟨_, rfl, ?_⟩; have n0_ := Aside0.mk (below_step (by repeat (first | (with_reducible first | exact HB.out | apply below_alloc | apply pw_below_drewN | apply below_drew1) | exact HB.out)) hb); clear HB; have HB := n0_; clear n0_; (try clear hb); (try clear hb2); (try clear hk); (try clear hi)) | ((with_reducible refine gate_dst (N := 1) rfl ?_); (try (refine gate_guard (by rfl) ?_; dsimp only)); refine box_event ?hg (N := 1) ?hd (cs := #[.string (⟨#[]⟩ : ByteArray), .string (⟨#[]⟩ : ByteArray), .int .i64 0]) (t := 30) ?hr ?_; (case hd => rfl); (case hg => rfl); (case hr => first | (go_simp; done) | (go_simp; rfl)); intro gb257 hg w23 hbox hb; have n0_ := Aside0.mk (below_step (by repeat (first | (with_reducible first | exact HB.out | apply below_alloc | apply pw_below_drewN | apply below_drew1) | exact HB.out)) hb); have n1_ := Aside0.mk (hbox); have n2_ := Aside0.mk ((by rw [hg]; exact (below_size (by repeat (first | (with_reducible first | exact HB.out | apply below_alloc | apply pw_below_drewN | apply below_drew1) | exact HB.out))) : w.heap.size ≤ gb257)); have n3_ := Aside0.mk ((by rw [hg]; exact (below_size (by repeat (first | (with_reducible first | exact HB.out | apply below_alloc | apply pw_below_drewN | apply below_drew1) | exact HB.out))) : w.heap.size ≤ gb257)); clear HB; have HB := n0_; have BK257 := n1_; have GW257 := n2_; have GE257 := n3_; clear n0_ n1_ n2_ n3_; clear hb hbox hg; have hcz24_0 : w23.cell? ⟨gb257, 0, none⟩ = some (.string (⟨#[]⟩ : ByteArray)) := (blk_cell BK257.out 0).trans rfl; have hcz24_1 : w23.cell? ⟨gb257, 1, none⟩ = some (.string (⟨#[]⟩ : ByteArray)) := (blk_cell BK257.out 1).trans rfl; have hcz24_2 : w23.cell? ⟨gb257, 2, none⟩ = some (.int .i64 0) := (blk_cell BK257.out 2).trans rfl; have hfz24_0 := blk_frozen BK257.out 0; have hfz24_1 := blk_frozen BK257.out 1; have hfz24_2 := blk_frozen BK257.out 2) | ((with_reducible refine gate_callee (f := 9) rfl ?_); refine goesL_ (some 15) rfl rfl Try.func9 (by kernel_rfl) rfl #[.agg #[.string t253, .string t254, .int .i64 t255]] rfl (by (try simp only [List.map_toArray, List.map_cons, List.map_nil]); first | done | rfl | (simp only [List.length_drop, List.length_take]; rfl)) ?_; (with_reducible refine (file_Sync.calls t253 t254 t255 t258 t259 t260 t261 _ A2.out).mono ?_); rintro e w25 ⟨rfl, hb⟩; refine ⟨_, rfl, ?_⟩; have n0_ := Aside0.mk (blk_below (g := gb257) (o := .cells #[.string t253, .string t254, .int .i64 t255] 30 (0, 0)) (by (with_reducible repeat (first | refine blk_drewN ?_ _ | refine blk_drew ?_ | refine blk_alloc ?_ _)); refine blk_put (cs := #[.string t253, .string t254, .int .i64 0]) ?_ 2 _ rfl; (with_reducible repeat (first | refine blk_drewN ?_ _ | refine blk_drew ?_ | refine blk_alloc ?_ _)); refine blk_put (cs := #[.string t253, .string (⟨#[]⟩ : ByteArray), .int .i64 0]) ?_ 1 _ rfl; (with_reducible repeat (first | refine blk_drewN ?_ _ | refine blk_drew ?_ | refine blk_alloc ?_ _)); refine blk_put (cs := #[.string (⟨#[]⟩ : ByteArray), .string (⟨#[]⟩ : ByteArray), .int .i64 0]) ?_ 0 _ rfl; (with_reducible repeat (first | refine blk_drewN ?_ _ | refine blk_drew ?_ | refine blk_alloc ?_ _)); exact BK257.out) hb); have n1_ := Aside0.mk (below_step (by repeat (first | (with_reducible first | exact HB.out | apply below_alloc | apply pw_below_drewN | apply below_drew1 | refine below_set ?_ GE257.out) | exact HB.out)) hb); clear BK257; clear HB; have BK257 := n0_; have HB := n1_; clear n0_ n1_; (try clear hb); (try clear hb2); (try clear hk); (try clear hi); have hcz26_0 : w25.cell? ⟨gb257, 0, none⟩ = some (.string t253) := (blk_cell BK257.out 0).trans rfl; have hcz26_1 : w25.cell? ⟨gb257, 1, none⟩ = some (.string t254) := (blk_cell BK257.out 1).trans rfl; have hcz26_2 : w25.cell? ⟨gb257, 2, none⟩ = some (.int .i64 t255) := (blk_cell BK257.out 2).trans rfl; have hfz26_0 := blk_frozen BK257.out 0; have hfz26_1 := blk_frozen BK257.out 1; have hfz26_2 := blk_frozen BK257.out 2) | ((with_reducible refine gate_callee (f := 12) rfl ?_); refine goesL_ (some 20) rfl rfl Try.func12 (by kernel_rfl) rfl #[.agg #[.string t258, .string t259, .int .i64 t260]] rfl (by (try simp only [List.map_toArray, List.map_cons, List.map_nil]); first | done | rfl | (simp only [List.length_drop, List.length_take]; rfl)) ?_; (with_reducible refine (journal_Recover.calls k t258 t259 t260 t262 t265 t266 t267 t268 _ A3.out).mono ?_); rintro e w27 ⟨v263, rfl, ho0, hb⟩; refine ⟨_, rfl, ?_⟩; have n0_ := Aside0.mk (Kd.S_lower ho0 (below_size (by repeat (first | (with_reducible first | exact HB.out | apply below_alloc | apply pw_below_drewN | apply below_drew1 | refine below_set ?_ GE257.out) | exact HB.out)))); have n1_ := Aside0.mk (blk_below (g := gb257) (o := .cells #[.string t258, .string t259, .int .i64 t260] 30 (0, 0)) (by (with_reducible repeat (first | refine blk_drewN ?_ _ | refine blk_drew ?_ | refine blk_alloc ?_ _)); refine blk_put (cs := #[.string t258, .string t259, .int .i64 t255]) ?_ 2 _ rfl; (with_reducible repeat (first | refine blk_drewN ?_ _ | refine blk_drew ?_ | refine blk_alloc ?_ _)); refine blk_put (cs := #[.string t258, .string t254, .int .i64 t255]) ?_ 1 _ rfl; (with_reducible repeat (first | refine blk_drewN ?_ _ | refine blk_drew ?_ | refine blk_alloc ?_ _)); refine blk_put (cs := #[.string t253, .string t254, .int .i64 t255]) ?_ 0 _ rfl; (with_reducible repeat (first | refine blk_drewN ?_ _ | refine blk_drew ?_ | refine blk_alloc ?_ _)); exact BK257.out) hb); have n2_ := Aside0.mk (below_step (by repeat (first | (with_reducible first | exact HB.out | apply below_alloc | apply pw_below_drewN | apply below_drew1 | refine below_set ?_ GE257.out) | exact HB.out)) hb); clear BK257; clear HB; have HO264 := n0_; have BK257 := n1_; have HB := n2_; clear n0_ n1_ n2_; (try clear hb); (try clear hb2); (try clear hk); (try clear hi); (try clear ho0)) | ((with_reducible refine gate_dst (N := 5) rfl ?_); (try (refine gate_guard (by rfl) ?_; dsimp only)); refine box_event ?hg (N := 5) ?hd (cs := #[.string (⟨#[]⟩ : ByteArray), .string (⟨#[]⟩ : ByteArray), .int .i64 0]) (t := 30) ?hr ?_; (case hd => rfl); (case hg => rfl); (case hr => first | (go_simp; done) | (go_simp; rfl)); intro gb269 hg w28 hbox hb; have n0_ := Aside0.mk (Kd.S_below (by (with_reducible repeat (first | apply Kd.S_alloc | apply Kd.S_drewN | apply Kd.S_drew)); exact HO264.out) hb); have n1_ := Aside0.mk (blk_below (g := gb257) (o := .cells #[.string t258, .string t259, .int .i64 t260] 30 (0, 0)) (by (with_reducible repeat (first | refine blk_drewN ?_ _ | refine blk_drew ?_ | refine blk_alloc ?_ _)); exact BK257.out) hb); have n2_ := Aside0.mk (below_step (by repeat (first | (with_reducible first | exact HB.out | apply below_alloc | apply pw_below_drewN | apply below_drew1 | refine below_set ?_ GE257.out) | exact HB.out)) hb); have n3_ := Aside0.mk (hbox); have n4_ := Aside0.mk ((by rw [hg]; exact (below_size (by repeat (first | (with_reducible first | exact HB.out | apply below_alloc | apply pw_below_drewN | apply below_drew1 | refine below_set ?_ GE257.out) | exact HB.out))) : w.heap.size ≤ gb269)); have n5_ := Aside0.mk ((by rw [hg]; exact (below_size (by repeat (first | (with_reducible first | exact HB.out | apply below_alloc | apply pw_below_drewN | apply below_drew1 | refine below_set ?_ GE257.out) | exact HB.out))) : w.heap.size ≤ gb269)); have n6_ := Aside0.mk ((by rw [hg]; exact Nat.ne_of_lt (blk_lt (g := gb257) (o := .cells #[.string t258, .string t259, .int .i64 t260] 30 (0, 0)) (by (with_reducible repeat (first | refine blk_drewN ?_ _ | refine blk_drew ?_ | refine blk_alloc ?_ _)); exact BK257.out)) : gb257 ≠ gb269)); have n7_ := Aside0.mk ((by rw [hg]; exact Nat.ne_of_gt (blk_lt (g := gb257) (o := .cells #[.string t258, .string t259, .int .i64 t260] 30 (0, 0)) (by (with_reducible repeat (first | refine blk_drewN ?_ _ | refine blk_drew ?_ | refine blk_alloc ?_ _)); exact BK257.out)) : gb269 ≠ gb257)); clear HO264; clear BK257; clear HB; have HO264 := n0_; have BK257 := n1_; have HB := n2_; have BK269 := n3_; have GW269 := n4_; have GE269 := n5_; have NB257_269 := n6_; have NB269_257 := n7_; clear n0_ n1_ n2_ n3_ n4_ n5_ n6_ n7_; clear hb hbox hg; have hnb29 := NB269_257.out; have hnc29 := NB257_269.out; have hcz30_0 : w28.cell? ⟨gb269, 0, none⟩ = some (.string (⟨#[]⟩ : ByteArray)) := (blk_cell BK269.out 0).trans rfl; have hcz30_1 : w28.cell? ⟨gb269, 1, none⟩ = some (.string (⟨#[]⟩ : ByteArray)) := (blk_cell BK269.out 1).trans rfl; have hcz30_2 : w28.cell? ⟨gb269, 2, none⟩ = some (.int .i64 0) := (blk_cell BK269.out 2).trans rfl; have hfz30_0 := blk_frozen BK269.out 0; have hfz30_1 := blk_frozen BK269.out 1; have hfz30_2 := blk_frozen BK269.out 2) | ((with_reducible refine gate_callee (f := 8) rfl ?_); refine goesL_ (some 25) rfl rfl Try.func8 (by kernel_rfl) rfl #[.int .i64 t256] rfl (by (try simp only [List.map_toArray, List.map_cons, List.map_nil]); first | done | rfl | (simp only [List.length_drop, List.length_take]; rfl)) ?_; (with_reducible refine (amanuensislaw13_num.calls t256 t270 _ A4.out).mono ?_); rintro e w' ⟨rfl, ⟨nd, rfl⟩⟩; refine ⟨_, rfl, ?_⟩) | (go_at_call 8; (with_reducible refine (amanuensislaw13_num.calls t261 t271 _ A6.out).mono ?_); rintro e w' ⟨rfl, ⟨nd, rfl⟩⟩) | (go_at_call 8; (with_reducible refine (amanuensislaw13_num.calls t268 t272 _ A8.out).mono ?_); rintro e w' ⟨rfl, ⟨nd, rfl⟩⟩; obtain ⟨Ao31, co31, eo31⟩ := Kd.S_slice HO264.out; subst eo31))
          go_ret
          exact ⟨by first | rfl | (simp [errW_none, errW_some] <;> rfl) | (simp [*, errW_none, errW_some] <;> rfl), by repeat (first | (with_reducible first | exact HB.out | apply below_alloc | apply pw_below_drewN | apply below_drew1 | refine below_set ?_ GE257.out | refine below_set ?_ GE269.out) | exact HB.out)⟩
      · rw [if_neg c9] at H
        have c9b0 : (t272 == 0) = false := beq_eq_false_iff_ne.mpr c9
        have c9b1 : (t272 != 0) = true := bne_iff_ne.mpr c9
        obtain rfl := Option.some.inj H
        go_enter Try.func14, Try.ntmps14
        go_wp2_with (first | ((with_reducible refine gate_callee (f := 7) rfl ?_); refine goesL_ (some 10) rfl rfl Try.func7 (by kernel_rfl) rfl #[.agg #[.string (⟨#[]⟩ : ByteArray), .string (⟨#[]⟩ : ByteArray), .int .i64 99], .agg #[.int .i64 4, .int .i64 1, .int .i64 0, .string (⟨#[]⟩ : ByteArray), .string (⟨#[]⟩ : ByteArray), .slice none 0 0]] rfl (by (try simp only [List.map_toArray, List.map_cons, List.map_nil]); first | done | rfl | (simp only [List.length_drop, List.length_take]; rfl)) ?_; (refine (journal_Append.calls k (⟨#[]⟩ : ByteArray) (⟨#[]⟩ : ByteArray) 99 4 1 0 (⟨#[]⟩ : ByteArray) (⟨#[]⟩ : ByteArray) _ _ ([] : List (S80)) t253 t254 t255 t256 _ ?side1 ?side2 A1.out).mono ?_); (case side1 => exact Kd.C_nil _ _); (case side2 => exact Nat.le_refl _); rintro e w32 ⟨rfl, hb⟩; refine ⟨_, rfl, ?_⟩; have n0_ := Aside0.mk (below_step (by repeat (first | (with_reducible first | exact HB.out | apply below_alloc | apply pw_below_drewN | apply below_drew1) | exact HB.out)) hb); clear HB; have HB := n0_; clear n0_; (try clear hb); (try clear hb2); (try clear hk); (try clear hi)) | ((with_reducible refine gate_dst (N := 1) rfl ?_); (try (refine gate_guard (by rfl) ?_; dsimp only)); refine box_event ?hg (N := 1) ?hd (cs := #[.string (⟨#[]⟩ : ByteArray), .string (⟨#[]⟩ : ByteArray), .int .i64 0]) (t := 30) ?hr ?_; (case hd => rfl); (case hg => rfl); (case hr => first | (go_simp; done) | (go_simp; rfl)); intro gb257 hg w33 hbox hb; have n0_ := Aside0.mk (below_step (by repeat (first | (with_reducible first | exact HB.out | apply below_alloc | apply pw_below_drewN | apply below_drew1) | exact HB.out)) hb); have n1_ := Aside0.mk (hbox); have n2_ := Aside0.mk ((by rw [hg]; exact (below_size (by repeat (first | (with_reducible first | exact HB.out | apply below_alloc | apply pw_below_drewN | apply below_drew1) | exact HB.out))) : w.heap.size ≤ gb257)); have n3_ := Aside0.mk ((by rw [hg]; exact (below_size (by repeat (first | (with_reducible first | exact HB.out | apply below_alloc | apply pw_below_drewN | apply below_drew1) | exact HB.out))) : w.heap.size ≤ gb257)); clear HB; have HB := n0_; have BK257 := n1_; have GW257 := n2_; have GE257 := n3_; clear n0_ n1_ n2_ n3_; clear hb hbox hg; have hcz34_0 : w33.cell? ⟨gb257, 0, none⟩ = some (.string (⟨#[]⟩ : ByteArray)) := (blk_cell BK257.out 0).trans rfl; have hcz34_1 : w33.cell? ⟨gb257, 1, none⟩ = some (.string (⟨#[]⟩ : ByteArray)) := (blk_cell BK257.out 1).trans rfl; have hcz34_2 : w33.cell? ⟨gb257, 2, none⟩ = some (.int .i64 0) := (blk_cell BK257.out 2).trans rfl; have hfz34_0 := blk_frozen BK257.out 0; have hfz34_1 := blk_frozen BK257.out 1; have hfz34_2 := blk_frozen BK257.out 2) | ((with_reducible refine gate_callee (f := 9) rfl ?_); refine goesL_ (some 15) rfl rfl Try.func9 (by kernel_rfl) rfl #[.agg #[.string t253, .string t254, .int .i64 t255]] rfl (by (try simp only [List.map_toArray, List.map_cons, List.map_nil]); first | done | rfl | (simp only [List.length_drop, List.length_take]; rfl)) ?_; (with_reducible refine (file_Sync.calls t253 t254 t255 t258 t259 t260 t261 _ A2.out).mono ?_); rintro e w35 ⟨rfl, hb⟩; refine ⟨_, rfl, ?_⟩; have n0_ := Aside0.mk (blk_below (g := gb257) (o := .cells #[.string t253, .string t254, .int .i64 t255] 30 (0, 0)) (by (with_reducible repeat (first | refine blk_drewN ?_ _ | refine blk_drew ?_ | refine blk_alloc ?_ _)); refine blk_put (cs := #[.string t253, .string t254, .int .i64 0]) ?_ 2 _ rfl; (with_reducible repeat (first | refine blk_drewN ?_ _ | refine blk_drew ?_ | refine blk_alloc ?_ _)); refine blk_put (cs := #[.string t253, .string (⟨#[]⟩ : ByteArray), .int .i64 0]) ?_ 1 _ rfl; (with_reducible repeat (first | refine blk_drewN ?_ _ | refine blk_drew ?_ | refine blk_alloc ?_ _)); refine blk_put (cs := #[.string (⟨#[]⟩ : ByteArray), .string (⟨#[]⟩ : ByteArray), .int .i64 0]) ?_ 0 _ rfl; (with_reducible repeat (first | refine blk_drewN ?_ _ | refine blk_drew ?_ | refine blk_alloc ?_ _)); exact BK257.out) hb); have n1_ := Aside0.mk (below_step (by repeat (first | (with_reducible first | exact HB.out | apply below_alloc | apply pw_below_drewN | apply below_drew1 | refine below_set ?_ GE257.out) | exact HB.out)) hb); clear BK257; clear HB; have BK257 := n0_; have HB := n1_; clear n0_ n1_; (try clear hb); (try clear hb2); (try clear hk); (try clear hi); have hcz36_0 : w35.cell? ⟨gb257, 0, none⟩ = some (.string t253) := (blk_cell BK257.out 0).trans rfl; have hcz36_1 : w35.cell? ⟨gb257, 1, none⟩ = some (.string t254) := (blk_cell BK257.out 1).trans rfl; have hcz36_2 : w35.cell? ⟨gb257, 2, none⟩ = some (.int .i64 t255) := (blk_cell BK257.out 2).trans rfl; have hfz36_0 := blk_frozen BK257.out 0; have hfz36_1 := blk_frozen BK257.out 1; have hfz36_2 := blk_frozen BK257.out 2) | ((with_reducible refine gate_callee (f := 12) rfl ?_); refine goesL_ (some 20) rfl rfl Try.func12 (by kernel_rfl) rfl #[.agg #[.string t258, .string t259, .int .i64 t260]] rfl (by (try simp only [List.map_toArray, List.map_cons, List.map_nil]); first | done | rfl | (simp only [List.length_drop, List.length_take]; rfl)) ?_; (with_reducible refine (journal_Recover.calls k t258 t259 t260 t262 t265 t266 t267 t268 _ A3.out).mono ?_); rintro e w37 ⟨v263, rfl, ho0, hb⟩; refine ⟨_, rfl, ?_⟩; have n0_ := Aside0.mk (Kd.S_lower ho0 (below_size (by repeat (first | (with_reducible first | exact HB.out | apply below_alloc | apply pw_below_drewN | apply below_drew1 | refine below_set ?_ GE257.out) | exact HB.out)))); have n1_ := Aside0.mk (blk_below (g := gb257) (o := .cells #[.string t258, .string t259, .int .i64 t260] 30 (0, 0)) (by (with_reducible repeat (first | refine blk_drewN ?_ _ | refine blk_drew ?_ | refine blk_alloc ?_ _)); refine blk_put (cs := #[.string t258, .string t259, .int .i64 t255]) ?_ 2 _ rfl; (with_reducible repeat (first | refine blk_drewN ?_ _ | refine blk_drew ?_ | refine blk_alloc ?_ _)); refine blk_put (cs := #[.string t258, .string t254, .int .i64 t255]) ?_ 1 _ rfl; (with_reducible repeat (first | refine blk_drewN ?_ _ | refine blk_drew ?_ | refine blk_alloc ?_ _)); refine blk_put (cs := #[.string t253, .string t254, .int .i64 t255]) ?_ 0 _ rfl; (with_reducible repeat (first | refine blk_drewN ?_ _ | refine blk_drew ?_ | refine blk_alloc ?_ _)); exact BK257.out) hb); have n2_ := Aside0.mk (below_step (by repeat (first | (with_reducible first | exact HB.out | apply below_alloc | apply pw_below_drewN | apply below_drew1 | refine below_set ?_ GE257.out) | exact HB.out)) hb); clear BK257; clear HB; have HO264 := n0_; have BK257 := n1_; have HB := n2_; clear n0_ n1_ n2_; (try clear hb); (try clear hb2); (try clear hk); (try clear hi); (try clear ho0)) | ((with_reducible refine gate_dst (N := 5) rfl ?_); (try (refine gate_guard (by rfl) ?_; dsimp only)); refine box_event ?hg (N := 5) ?hd (cs := #[.string (⟨#[]⟩ : ByteArray), .string (⟨#[]⟩ : ByteArray), .int .i64 0]) (t := 30) ?hr ?_; (case hd => rfl); (case hg => rfl); (case hr => first | (go_simp; done) | (go_simp; rfl)); intro gb269 hg w38 hbox hb; have n0_ := Aside0.mk (Kd.S_below (by (with_reducible repeat (first | apply Kd.S_alloc | apply Kd.S_drewN | apply Kd.S_drew)); exact HO264.out) hb); have n1_ := Aside0.mk (blk_below (g := gb257) (o := .cells #[.string t258, .string t259, .int .i64 t260] 30 (0, 0)) (by (with_reducible repeat (first | refine blk_drewN ?_ _ | refine blk_drew ?_ | refine blk_alloc ?_ _)); exact BK257.out) hb); have n2_ := Aside0.mk (below_step (by repeat (first | (with_reducible first | exact HB.out | apply below_alloc | apply pw_below_drewN | apply below_drew1 | refine below_set ?_ GE257.out) | exact HB.out)) hb); have n3_ := Aside0.mk (hbox); have n4_ := Aside0.mk ((by rw [hg]; exact (below_size (by repeat (first | (with_reducible first | exact HB.out | apply below_alloc | apply pw_below_drewN | apply below_drew1 | refine below_set ?_ GE257.out) | exact HB.out))) : w.heap.size ≤ gb269)); have n5_ := Aside0.mk ((by rw [hg]; exact (below_size (by repeat (first | (with_reducible first | exact HB.out | apply below_alloc | apply pw_below_drewN | apply below_drew1 | refine below_set ?_ GE257.out) | exact HB.out))) : w.heap.size ≤ gb269)); have n6_ := Aside0.mk ((by rw [hg]; exact Nat.ne_of_lt (blk_lt (g := gb257) (o := .cells #[.string t258, .string t259, .int .i64 t260] 30 (0, 0)) (by (with_reducible repeat (first | refine blk_drewN ?_ _ | refine blk_drew ?_ | refine blk_alloc ?_ _)); exact BK257.out)) : gb257 ≠ gb269)); have n7_ := Aside0.mk ((by rw [hg]; exact Nat.ne_of_gt (blk_lt (g := gb257) (o := .cells #[.string t258, .string t259, .int .i64 t260] 30 (0, 0)) (by (with_reducible repeat (first | refine blk_drewN ?_ _ | refine blk_drew ?_ | refine blk_alloc ?_ _)); exact BK257.out)) : gb269 ≠ gb257)); clear HO264; clear BK257; clear HB; have HO264 := n0_; have BK257 := n1_; have HB := n2_; have BK269 := n3_; have GW269 := n4_; have GE269 := n5_; have NB257_269 := n6_; have NB269_257 := n7_; clear n0_ n1_ n2_ n3_ n4_ n5_ n6_ n7_; clear hb hbox hg; have hnb39 := NB269_257.out; have hnc39 := NB257_269.out; have hcz40_0 : w38.cell? ⟨gb269, 0, none⟩ = some (.string (⟨#[]⟩ : ByteArray)) := (blk_cell BK269.out 0).trans rfl; have hcz40_1 : w38.cell? ⟨gb269, 1, none⟩ = some (.string (⟨#[]⟩ : ByteArray)) := (blk_cell BK269.out 1).trans rfl; have hcz40_2 : w38.cell? ⟨gb269, 2, none⟩ = some (.int .i64 0) := (blk_cell BK269.out 2).trans rfl; have hfz40_0 := blk_frozen BK269.out 0; have hfz40_1 := blk_frozen BK269.out 1; have hfz40_2 := blk_frozen BK269.out 2) | ((with_reducible refine gate_callee (f := 8) rfl ?_); refine goesL_ (some 25) rfl rfl Try.func8 (by kernel_rfl) rfl #[.int .i64 t256] rfl (by (try simp only [List.map_toArray, List.map_cons, List.map_nil]); first | done | rfl | (simp only [List.length_drop, List.length_take]; rfl)) ?_; (with_reducible refine (amanuensislaw13_num.calls t256 t270 _ A4.out).mono ?_); rintro e w' ⟨rfl, ⟨nd, rfl⟩⟩; refine ⟨_, rfl, ?_⟩) | (go_at_call 8; (with_reducible refine (amanuensislaw13_num.calls t261 t271 _ A6.out).mono ?_); rintro e w' ⟨rfl, ⟨nd, rfl⟩⟩) | (go_at_call 8; (with_reducible refine (amanuensislaw13_num.calls t268 t272 _ A8.out).mono ?_); rintro e w' ⟨rfl, ⟨nd, rfl⟩⟩))
        go_ret
        exact ⟨by first | rfl | (simp [errW_none, errW_some] <;> rfl) | (simp [*, errW_none, errW_some] <;> rfl), by repeat (first | (with_reducible first | exact HB.out | apply below_alloc | apply pw_below_drewN | apply below_drew1 | refine below_set ?_ GE257.out | refine below_set ?_ GE269.out) | exact HB.out)⟩
    · rw [if_neg c7] at H
      have c7b0 : (t271 == 0) = false := beq_eq_false_iff_ne.mpr c7
      have c7b1 : (t271 != 0) = true := bne_iff_ne.mpr c7
      obtain rfl := Option.some.inj H
      go_enter Try.func14, Try.ntmps14
      go_wp2_with (first | ((with_reducible refine gate_callee (f := 7) rfl ?_); refine goesL_ (some 10) rfl rfl Try.func7 (by kernel_rfl) rfl #[.agg #[.string (⟨#[]⟩ : ByteArray), .string (⟨#[]⟩ : ByteArray), .int .i64 99], .agg #[.int .i64 4, .int .i64 1, .int .i64 0, .string (⟨#[]⟩ : ByteArray), .string (⟨#[]⟩ : ByteArray), .slice none 0 0]] rfl (by (try simp only [List.map_toArray, List.map_cons, List.map_nil]); first | done | rfl | (simp only [List.length_drop, List.length_take]; rfl)) ?_; (refine (journal_Append.calls k (⟨#[]⟩ : ByteArray) (⟨#[]⟩ : ByteArray) 99 4 1 0 (⟨#[]⟩ : ByteArray) (⟨#[]⟩ : ByteArray) _ _ ([] : List (S80)) t253 t254 t255 t256 _ ?side1 ?side2 A1.out).mono ?_); (case side1 => exact Kd.C_nil _ _); (case side2 => exact Nat.le_refl _); rintro e w41 ⟨rfl, hb⟩; refine ⟨_, rfl, ?_⟩; have n0_ := Aside0.mk (below_step (by repeat (first | (with_reducible first | exact HB.out | apply below_alloc | apply pw_below_drewN | apply below_drew1) | exact HB.out)) hb); clear HB; have HB := n0_; clear n0_; (try clear hb); (try clear hb2); (try clear hk); (try clear hi)) | ((with_reducible refine gate_dst (N := 1) rfl ?_); (try (refine gate_guard (by rfl) ?_; dsimp only)); refine box_event ?hg (N := 1) ?hd (cs := #[.string (⟨#[]⟩ : ByteArray), .string (⟨#[]⟩ : ByteArray), .int .i64 0]) (t := 30) ?hr ?_; (case hd => rfl); (case hg => rfl); (case hr => first | (go_simp; done) | (go_simp; rfl)); intro gb257 hg w42 hbox hb; have n0_ := Aside0.mk (below_step (by repeat (first | (with_reducible first | exact HB.out | apply below_alloc | apply pw_below_drewN | apply below_drew1) | exact HB.out)) hb); have n1_ := Aside0.mk (hbox); have n2_ := Aside0.mk ((by rw [hg]; exact (below_size (by repeat (first | (with_reducible first | exact HB.out | apply below_alloc | apply pw_below_drewN | apply below_drew1) | exact HB.out))) : w.heap.size ≤ gb257)); have n3_ := Aside0.mk ((by rw [hg]; exact (below_size (by repeat (first | (with_reducible first | exact HB.out | apply below_alloc | apply pw_below_drewN | apply below_drew1) | exact HB.out))) : w.heap.size ≤ gb257)); clear HB; have HB := n0_; have BK257 := n1_; have GW257 := n2_; have GE257 := n3_; clear n0_ n1_ n2_ n3_; clear hb hbox hg; have hcz43_0 : w42.cell? ⟨gb257, 0, none⟩ = some (.string (⟨#[]⟩ : ByteArray)) := (blk_cell BK257.out 0).trans rfl; have hcz43_1 : w42.cell? ⟨gb257, 1, none⟩ = some (.string (⟨#[]⟩ : ByteArray)) := (blk_cell BK257.out 1).trans rfl; have hcz43_2 : w42.cell? ⟨gb257, 2, none⟩ = some (.int .i64 0) := (blk_cell BK257.out 2).trans rfl; have hfz43_0 := blk_frozen BK257.out 0; have hfz43_1 := blk_frozen BK257.out 1; have hfz43_2 := blk_frozen BK257.out 2) | ((with_reducible refine gate_callee (f := 9) rfl ?_); refine goesL_ (some 15) rfl rfl Try.func9 (by kernel_rfl) rfl #[.agg #[.string t253, .string t254, .int .i64 t255]] rfl (by (try simp only [List.map_toArray, List.map_cons, List.map_nil]); first | done | rfl | (simp only [List.length_drop, List.length_take]; rfl)) ?_; (with_reducible refine (file_Sync.calls t253 t254 t255 t258 t259 t260 t261 _ A2.out).mono ?_); rintro e w44 ⟨rfl, hb⟩; refine ⟨_, rfl, ?_⟩; have n0_ := Aside0.mk (blk_below (g := gb257) (o := .cells #[.string t253, .string t254, .int .i64 t255] 30 (0, 0)) (by (with_reducible repeat (first | refine blk_drewN ?_ _ | refine blk_drew ?_ | refine blk_alloc ?_ _)); refine blk_put (cs := #[.string t253, .string t254, .int .i64 0]) ?_ 2 _ rfl; (with_reducible repeat (first | refine blk_drewN ?_ _ | refine blk_drew ?_ | refine blk_alloc ?_ _)); refine blk_put (cs := #[.string t253, .string (⟨#[]⟩ : ByteArray), .int .i64 0]) ?_ 1 _ rfl; (with_reducible repeat (first | refine blk_drewN ?_ _ | refine blk_drew ?_ | refine blk_alloc ?_ _)); refine blk_put (cs := #[.string (⟨#[]⟩ : ByteArray), .string (⟨#[]⟩ : ByteArray), .int .i64 0]) ?_ 0 _ rfl; (with_reducible repeat (first | refine blk_drewN ?_ _ | refine blk_drew ?_ | refine blk_alloc ?_ _)); exact BK257.out) hb); have n1_ := Aside0.mk (below_step (by repeat (first | (with_reducible first | exact HB.out | apply below_alloc | apply pw_below_drewN | apply below_drew1 | refine below_set ?_ GE257.out) | exact HB.out)) hb); clear BK257; clear HB; have BK257 := n0_; have HB := n1_; clear n0_ n1_; (try clear hb); (try clear hb2); (try clear hk); (try clear hi); have hcz45_0 : w44.cell? ⟨gb257, 0, none⟩ = some (.string t253) := (blk_cell BK257.out 0).trans rfl; have hcz45_1 : w44.cell? ⟨gb257, 1, none⟩ = some (.string t254) := (blk_cell BK257.out 1).trans rfl; have hcz45_2 : w44.cell? ⟨gb257, 2, none⟩ = some (.int .i64 t255) := (blk_cell BK257.out 2).trans rfl; have hfz45_0 := blk_frozen BK257.out 0; have hfz45_1 := blk_frozen BK257.out 1; have hfz45_2 := blk_frozen BK257.out 2) | ((with_reducible refine gate_callee (f := 12) rfl ?_); refine goesL_ (some 20) rfl rfl Try.func12 (by kernel_rfl) rfl #[.agg #[.string t258, .string t259, .int .i64 t260]] rfl (by (try simp only [List.map_toArray, List.map_cons, List.map_nil]); first | done | rfl | (simp only [List.length_drop, List.length_take]; rfl)) ?_; (with_reducible refine (journal_Recover.calls k t258 t259 t260 t262 t265 t266 t267 t268 _ A3.out).mono ?_); rintro e w46 ⟨v263, rfl, ho0, hb⟩; refine ⟨_, rfl, ?_⟩; have n0_ := Aside0.mk (Kd.S_lower ho0 (below_size (by repeat (first | (with_reducible first | exact HB.out | apply below_alloc | apply pw_below_drewN | apply below_drew1 | refine below_set ?_ GE257.out) | exact HB.out)))); have n1_ := Aside0.mk (blk_below (g := gb257) (o := .cells #[.string t258, .string t259, .int .i64 t260] 30 (0, 0)) (by (with_reducible repeat (first | refine blk_drewN ?_ _ | refine blk_drew ?_ | refine blk_alloc ?_ _)); refine blk_put (cs := #[.string t258, .string t259, .int .i64 t255]) ?_ 2 _ rfl; (with_reducible repeat (first | refine blk_drewN ?_ _ | refine blk_drew ?_ | refine blk_alloc ?_ _)); refine blk_put (cs := #[.string t258, .string t254, .int .i64 t255]) ?_ 1 _ rfl; (with_reducible repeat (first | refine blk_drewN ?_ _ | refine blk_drew ?_ | refine blk_alloc ?_ _)); refine blk_put (cs := #[.string t253, .string t254, .int .i64 t255]) ?_ 0 _ rfl; (with_reducible repeat (first | refine blk_drewN ?_ _ | refine blk_drew ?_ | refine blk_alloc ?_ _)); exact BK257.out) hb); have n2_ := Aside0.mk (below_step (by repeat (first | (with_reducible first | exact HB.out | apply below_alloc | apply pw_below_drewN | apply below_drew1 | refine below_set ?_ GE257.out) | exact HB.out)) hb); clear BK257; clear HB; have HO264 := n0_; have BK257 := n1_; have HB := n2_; clear n0_ n1_ n2_; (try clear hb); (try clear hb2); (try clear hk); (try clear hi); (try clear ho0)) | ((with_reducible refine gate_dst (N := 5) rfl ?_); (try (refine gate_guard (by rfl) ?_; dsimp only)); refine box_event ?hg (N := 5) ?hd (cs := #[.string (⟨#[]⟩ : ByteArray), .string (⟨#[]⟩ : ByteArray), .int .i64 0]) (t := 30) ?hr ?_; (case hd => rfl); (case hg => rfl); (case hr => first | (go_simp; done) | (go_simp; rfl)); intro gb269 hg w47 hbox hb; have n0_ := Aside0.mk (Kd.S_below (by (with_reducible repeat (first | apply Kd.S_alloc | apply Kd.S_drewN | apply Kd.S_drew)); exact HO264.out) hb); have n1_ := Aside0.mk (blk_below (g := gb257) (o := .cells #[.string t258, .string t259, .int .i64 t260] 30 (0, 0)) (by (with_reducible repeat (first | refine blk_drewN ?_ _ | refine blk_drew ?_ | refine blk_alloc ?_ _)); exact BK257.out) hb); have n2_ := Aside0.mk (below_step (by repeat (first | (with_reducible first | exact HB.out | apply below_alloc | apply pw_below_drewN | apply below_drew1 | refine below_set ?_ GE257.out) | exact HB.out)) hb); have n3_ := Aside0.mk (hbox); have n4_ := Aside0.mk ((by rw [hg]; exact (below_size (by repeat (first | (with_reducible first | exact HB.out | apply below_alloc | apply pw_below_drewN | apply below_drew1 | refine below_set ?_ GE257.out) | exact HB.out))) : w.heap.size ≤ gb269)); have n5_ := Aside0.mk ((by rw [hg]; exact (below_size (by repeat (first | (with_reducible first | exact HB.out | apply below_alloc | apply pw_below_drewN | apply below_drew1 | refine below_set ?_ GE257.out) | exact HB.out))) : w.heap.size ≤ gb269)); have n6_ := Aside0.mk ((by rw [hg]; exact Nat.ne_of_lt (blk_lt (g := gb257) (o := .cells #[.string t258, .string t259, .int .i64 t260] 30 (0, 0)) (by (with_reducible repeat (first | refine blk_drewN ?_ _ | refine blk_drew ?_ | refine blk_alloc ?_ _)); exact BK257.out)) : gb257 ≠ gb269)); have n7_ := Aside0.mk ((by rw [hg]; exact Nat.ne_of_gt (blk_lt (g := gb257) (o := .cells #[.string t258, .string t259, .int .i64 t260] 30 (0, 0)) (by (with_reducible repeat (first | refine blk_drewN ?_ _ | refine blk_drew ?_ | refine blk_alloc ?_ _)); exact BK257.out)) : gb269 ≠ gb257)); clear HO264; clear BK257; clear HB; have HO264 := n0_; have BK257 := n1_; have HB := n2_; have BK269 := n3_; have GW269 := n4_; have GE269 := n5_; have NB257_269 := n6_; have NB269_257 := n7_; clear n0_ n1_ n2_ n3_ n4_ n5_ n6_ n7_; clear hb hbox hg; have hnb48 := NB269_257.out; have hnc48 := NB257_269.out; have hcz49_0 : w47.cell? ⟨gb269, 0, none⟩ = some (.string (⟨#[]⟩ : ByteArray)) := (blk_cell BK269.out 0).trans rfl; have hcz49_1 : w47.cell? ⟨gb269, 1, none⟩ = some (.string (⟨#[]⟩ : ByteArray)) := (blk_cell BK269.out 1).trans rfl; have hcz49_2 : w47.cell? ⟨gb269, 2, none⟩ = some (.int .i64 0) := (blk_cell BK269.out 2).trans rfl; have hfz49_0 := blk_frozen BK269.out 0; have hfz49_1 := blk_frozen BK269.out 1; have hfz49_2 := blk_frozen BK269.out 2) | ((with_reducible refine gate_callee (f := 8) rfl ?_); refine goesL_ (some 25) rfl rfl Try.func8 (by kernel_rfl) rfl #[.int .i64 t256] rfl (by (try simp only [List.map_toArray, List.map_cons, List.map_nil]); first | done | rfl | (simp only [List.length_drop, List.length_take]; rfl)) ?_; (with_reducible refine (amanuensislaw13_num.calls t256 t270 _ A4.out).mono ?_); rintro e w' ⟨rfl, ⟨nd, rfl⟩⟩; refine ⟨_, rfl, ?_⟩) | (go_at_call 8; (with_reducible refine (amanuensislaw13_num.calls t261 t271 _ A6.out).mono ?_); rintro e w' ⟨rfl, ⟨nd, rfl⟩⟩))
      go_ret
      exact ⟨by first | rfl | (simp [errW_none, errW_some] <;> rfl) | (simp [*, errW_none, errW_some] <;> rfl), by repeat (first | (with_reducible first | exact HB.out | apply below_alloc | apply pw_below_drewN | apply below_drew1 | refine below_set ?_ GE257.out | refine below_set ?_ GE269.out) | exact HB.out)⟩
  · rw [if_neg c5] at H
    have c5b0 : (t270 == 0) = false := beq_eq_false_iff_ne.mpr c5
    have c5b1 : (t270 != 0) = true := bne_iff_ne.mpr c5
    obtain rfl := Option.some.inj H
    go_enter Try.func14, Try.ntmps14
    go_wp2_with (first | ((with_reducible refine gate_callee (f := 7) rfl ?_); refine goesL_ (some 10) rfl rfl Try.func7 (by kernel_rfl) rfl #[.agg #[.string (⟨#[]⟩ : ByteArray), .string (⟨#[]⟩ : ByteArray), .int .i64 99], .agg #[.int .i64 4, .int .i64 1, .int .i64 0, .string (⟨#[]⟩ : ByteArray), .string (⟨#[]⟩ : ByteArray), .slice none 0 0]] rfl (by (try simp only [List.map_toArray, List.map_cons, List.map_nil]); first | done | rfl | (simp only [List.length_drop, List.length_take]; rfl)) ?_; (refine (journal_Append.calls k (⟨#[]⟩ : ByteArray) (⟨#[]⟩ : ByteArray) 99 4 1 0 (⟨#[]⟩ : ByteArray) (⟨#[]⟩ : ByteArray) _ _ ([] : List (S80)) t253 t254 t255 t256 _ ?side1 ?side2 A1.out).mono ?_); (case side1 => exact Kd.C_nil _ _); (case side2 => exact Nat.le_refl _); rintro e w50 ⟨rfl, hb⟩; refine ⟨_, rfl, ?_⟩; have n0_ := Aside0.mk (below_step (by repeat (first | (with_reducible first | exact HB.out | apply below_alloc | apply pw_below_drewN | apply below_drew1) | exact HB.out)) hb); clear HB; have HB := n0_; clear n0_; (try clear hb); (try clear hb2); (try clear hk); (try clear hi)) | ((with_reducible refine gate_dst (N := 1) rfl ?_); (try (refine gate_guard (by rfl) ?_; dsimp only)); refine box_event ?hg (N := 1) ?hd (cs := #[.string (⟨#[]⟩ : ByteArray), .string (⟨#[]⟩ : ByteArray), .int .i64 0]) (t := 30) ?hr ?_; (case hd => rfl); (case hg => rfl); (case hr => first | (go_simp; done) | (go_simp; rfl)); intro gb257 hg w51 hbox hb; have n0_ := Aside0.mk (below_step (by repeat (first | (with_reducible first | exact HB.out | apply below_alloc | apply pw_below_drewN | apply below_drew1) | exact HB.out)) hb); have n1_ := Aside0.mk (hbox); have n2_ := Aside0.mk ((by rw [hg]; exact (below_size (by repeat (first | (with_reducible first | exact HB.out | apply below_alloc | apply pw_below_drewN | apply below_drew1) | exact HB.out))) : w.heap.size ≤ gb257)); have n3_ := Aside0.mk ((by rw [hg]; exact (below_size (by repeat (first | (with_reducible first | exact HB.out | apply below_alloc | apply pw_below_drewN | apply below_drew1) | exact HB.out))) : w.heap.size ≤ gb257)); clear HB; have HB := n0_; have BK257 := n1_; have GW257 := n2_; have GE257 := n3_; clear n0_ n1_ n2_ n3_; clear hb hbox hg; have hcz52_0 : w51.cell? ⟨gb257, 0, none⟩ = some (.string (⟨#[]⟩ : ByteArray)) := (blk_cell BK257.out 0).trans rfl; have hcz52_1 : w51.cell? ⟨gb257, 1, none⟩ = some (.string (⟨#[]⟩ : ByteArray)) := (blk_cell BK257.out 1).trans rfl; have hcz52_2 : w51.cell? ⟨gb257, 2, none⟩ = some (.int .i64 0) := (blk_cell BK257.out 2).trans rfl; have hfz52_0 := blk_frozen BK257.out 0; have hfz52_1 := blk_frozen BK257.out 1; have hfz52_2 := blk_frozen BK257.out 2) | ((with_reducible refine gate_callee (f := 9) rfl ?_); refine goesL_ (some 15) rfl rfl Try.func9 (by kernel_rfl) rfl #[.agg #[.string t253, .string t254, .int .i64 t255]] rfl (by (try simp only [List.map_toArray, List.map_cons, List.map_nil]); first | done | rfl | (simp only [List.length_drop, List.length_take]; rfl)) ?_; (with_reducible refine (file_Sync.calls t253 t254 t255 t258 t259 t260 t261 _ A2.out).mono ?_); rintro e w53 ⟨rfl, hb⟩; refine ⟨_, rfl, ?_⟩; have n0_ := Aside0.mk (blk_below (g := gb257) (o := .cells #[.string t253, .string t254, .int .i64 t255] 30 (0, 0)) (by (with_reducible repeat (first | refine blk_drewN ?_ _ | refine blk_drew ?_ | refine blk_alloc ?_ _)); refine blk_put (cs := #[.string t253, .string t254, .int .i64 0]) ?_ 2 _ rfl; (with_reducible repeat (first | refine blk_drewN ?_ _ | refine blk_drew ?_ | refine blk_alloc ?_ _)); refine blk_put (cs := #[.string t253, .string (⟨#[]⟩ : ByteArray), .int .i64 0]) ?_ 1 _ rfl; (with_reducible repeat (first | refine blk_drewN ?_ _ | refine blk_drew ?_ | refine blk_alloc ?_ _)); refine blk_put (cs := #[.string (⟨#[]⟩ : ByteArray), .string (⟨#[]⟩ : ByteArray), .int .i64 0]) ?_ 0 _ rfl; (with_reducible repeat (first | refine blk_drewN ?_ _ | refine blk_drew ?_ | refine blk_alloc ?_ _)); exact BK257.out) hb); have n1_ := Aside0.mk (below_step (by repeat (first | (with_reducible first | exact HB.out | apply below_alloc | apply pw_below_drewN | apply below_drew1 | refine below_set ?_ GE257.out) | exact HB.out)) hb); clear BK257; clear HB; have BK257 := n0_; have HB := n1_; clear n0_ n1_; (try clear hb); (try clear hb2); (try clear hk); (try clear hi); have hcz54_0 : w53.cell? ⟨gb257, 0, none⟩ = some (.string t253) := (blk_cell BK257.out 0).trans rfl; have hcz54_1 : w53.cell? ⟨gb257, 1, none⟩ = some (.string t254) := (blk_cell BK257.out 1).trans rfl; have hcz54_2 : w53.cell? ⟨gb257, 2, none⟩ = some (.int .i64 t255) := (blk_cell BK257.out 2).trans rfl; have hfz54_0 := blk_frozen BK257.out 0; have hfz54_1 := blk_frozen BK257.out 1; have hfz54_2 := blk_frozen BK257.out 2) | ((with_reducible refine gate_callee (f := 12) rfl ?_); refine goesL_ (some 20) rfl rfl Try.func12 (by kernel_rfl) rfl #[.agg #[.string t258, .string t259, .int .i64 t260]] rfl (by (try simp only [List.map_toArray, List.map_cons, List.map_nil]); first | done | rfl | (simp only [List.length_drop, List.length_take]; rfl)) ?_; (with_reducible refine (journal_Recover.calls k t258 t259 t260 t262 t265 t266 t267 t268 _ A3.out).mono ?_); rintro e w55 ⟨v263, rfl, ho0, hb⟩; refine ⟨_, rfl, ?_⟩; have n0_ := Aside0.mk (Kd.S_lower ho0 (below_size (by repeat (first | (with_reducible first | exact HB.out | apply below_alloc | apply pw_below_drewN | apply below_drew1 | refine below_set ?_ GE257.out) | exact HB.out)))); have n1_ := Aside0.mk (blk_below (g := gb257) (o := .cells #[.string t258, .string t259, .int .i64 t260] 30 (0, 0)) (by (with_reducible repeat (first | refine blk_drewN ?_ _ | refine blk_drew ?_ | refine blk_alloc ?_ _)); refine blk_put (cs := #[.string t258, .string t259, .int .i64 t255]) ?_ 2 _ rfl; (with_reducible repeat (first | refine blk_drewN ?_ _ | refine blk_drew ?_ | refine blk_alloc ?_ _)); refine blk_put (cs := #[.string t258, .string t254, .int .i64 t255]) ?_ 1 _ rfl; (with_reducible repeat (first | refine blk_drewN ?_ _ | refine blk_drew ?_ | refine blk_alloc ?_ _)); refine blk_put (cs := #[.string t253, .string t254, .int .i64 t255]) ?_ 0 _ rfl; (with_reducible repeat (first | refine blk_drewN ?_ _ | refine blk_drew ?_ | refine blk_alloc ?_ _)); exact BK257.out) hb); have n2_ := Aside0.mk (below_step (by repeat (first | (with_reducible first | exact HB.out | apply below_alloc | apply pw_below_drewN | apply below_drew1 | refine below_set ?_ GE257.out) | exact HB.out)) hb); clear BK257; clear HB; have HO264 := n0_; have BK257 := n1_; have HB := n2_; clear n0_ n1_ n2_; (try clear hb); (try clear hb2); (try clear hk); (try clear hi); (try clear ho0)) | ((with_reducible refine gate_dst (N := 5) rfl ?_); (try (refine gate_guard (by rfl) ?_; dsimp only)); refine box_event ?hg (N := 5) ?hd (cs := #[.string (⟨#[]⟩ : ByteArray), .string (⟨#[]⟩ : ByteArray), .int .i64 0]) (t := 30) ?hr ?_; (case hd => rfl); (case hg => rfl); (case hr => first | (go_simp; done) | (go_simp; rfl)); intro gb269 hg w56 hbox hb; have n0_ := Aside0.mk (Kd.S_below (by (with_reducible repeat (first | apply Kd.S_alloc | apply Kd.S_drewN | apply Kd.S_drew)); exact HO264.out) hb); have n1_ := Aside0.mk (blk_below (g := gb257) (o := .cells #[.string t258, .string t259, .int .i64 t260] 30 (0, 0)) (by (with_reducible repeat (first | refine blk_drewN ?_ _ | refine blk_drew ?_ | refine blk_alloc ?_ _)); exact BK257.out) hb); have n2_ := Aside0.mk (below_step (by repeat (first | (with_reducible first | exact HB.out | apply below_alloc | apply pw_below_drewN | apply below_drew1 | refine below_set ?_ GE257.out) | exact HB.out)) hb); have n3_ := Aside0.mk (hbox); have n4_ := Aside0.mk ((by rw [hg]; exact (below_size (by repeat (first | (with_reducible first | exact HB.out | apply below_alloc | apply pw_below_drewN | apply below_drew1 | refine below_set ?_ GE257.out) | exact HB.out))) : w.heap.size ≤ gb269)); have n5_ := Aside0.mk ((by rw [hg]; exact (below_size (by repeat (first | (with_reducible first | exact HB.out | apply below_alloc | apply pw_below_drewN | apply below_drew1 | refine below_set ?_ GE257.out) | exact HB.out))) : w.heap.size ≤ gb269)); have n6_ := Aside0.mk ((by rw [hg]; exact Nat.ne_of_lt (blk_lt (g := gb257) (o := .cells #[.string t258, .string t259, .int .i64 t260] 30 (0, 0)) (by (with_reducible repeat (first | refine blk_drewN ?_ _ | refine blk_drew ?_ | refine blk_alloc ?_ _)); exact BK257.out)) : gb257 ≠ gb269)); have n7_ := Aside0.mk ((by rw [hg]; exact Nat.ne_of_gt (blk_lt (g := gb257) (o := .cells #[.string t258, .string t259, .int .i64 t260] 30 (0, 0)) (by (with_reducible repeat (first | refine blk_drewN ?_ _ | refine blk_drew ?_ | refine blk_alloc ?_ _)); exact BK257.out)) : gb269 ≠ gb257)); clear HO264; clear BK257; clear HB; have HO264 := n0_; have BK257 := n1_; have HB := n2_; have BK269 := n3_; have GW269 := n4_; have GE269 := n5_; have NB257_269 := n6_; have NB269_257 := n7_; clear n0_ n1_ n2_ n3_ n4_ n5_ n6_ n7_; clear hb hbox hg; have hnb57 := NB269_257.out; have hnc57 := NB257_269.out; have hcz58_0 : w56.cell? ⟨gb269, 0, none⟩ = some (.string (⟨#[]⟩ : ByteArray)) := (blk_cell BK269.out 0).trans rfl; have hcz58_1 : w56.cell? ⟨gb269, 1, none⟩ = some (.string (⟨#[]⟩ : ByteArray)) := (blk_cell BK269.out 1).trans rfl; have hcz58_2 : w56.cell? ⟨gb269, 2, none⟩ = some (.int .i64 0) := (blk_cell BK269.out 2).trans rfl; have hfz58_0 := blk_frozen BK269.out 0; have hfz58_1 := blk_frozen BK269.out 1; have hfz58_2 := blk_frozen BK269.out 2) | ((with_reducible refine gate_callee (f := 8) rfl ?_); refine goesL_ (some 25) rfl rfl Try.func8 (by kernel_rfl) rfl #[.int .i64 t256] rfl (by (try simp only [List.map_toArray, List.map_cons, List.map_nil]); first | done | rfl | (simp only [List.length_drop, List.length_take]; rfl)) ?_; (with_reducible refine (amanuensislaw13_num.calls t256 t270 _ A4.out).mono ?_); rintro e w' ⟨rfl, ⟨nd, rfl⟩⟩; refine ⟨_, rfl, ?_⟩))
    go_ret
    exact ⟨by first | rfl | (simp [errW_none, errW_some] <;> rfl) | (simp [*, errW_none, errW_some] <;> rfl), by repeat (first | (with_reducible first | exact HB.out | apply below_alloc | apply pw_below_drewN | apply below_drew1 | refine below_set ?_ GE257.out | refine below_set ?_ GE269.out) | exact HB.out)⟩
end Go.Proofs.Ytmhjhhlgdenlkaa.P
set_option linter.unusedVariables false
set_option linter.unusedSimpArgs false
namespace Go.Proofs.Ytmhjhhlgdenlkaa.P
open Go.RowKit Go.Proofs.YtmhjhhlgdenlkaaW.PrintWords
def mayF (s t : ByteArray) (c : Int) : Bool := decide (1 ≤ c ∧ c ≤ 60000 ∧ (s.size : Int) + t.size ≤ c)
theorem May_tot (s t : ByteArray) (c : Int) (hs : s.size ≤ 1000000000) (ht : t.size ≤ 1000000000) : file_May.f s t c = some (mayF s t c) := by
  unfold file_May.f mayF
  by_cases h1 : c ≥ 1
  · rw [if_pos h1]
    by_cases h2 : c ≤ 60000
    · rw [if_pos h2, show wrap64 ((s.size : Int) + (t.size : Int)) = (s.size : Int) + t.size from by unfold wrap64; omega]
      congr 1
      exact decide_eq_decide.2 (by omega)
    · rw [if_neg h2, decide_eq_false (by omega)]
  · rw [if_neg h1, decide_eq_false (by omega)]
theorem Append_tot (s t y : ByteArray) (c : Int) (hs : s.size ≤ 1000000000) (ht : t.size ≤ 1000000000) (hy : y.size ≤ 1000000000) :
    file_Append.f s t c y = some (if mayF s t c = true then (if (y.size : Int) > c - s.size - t.size then (⟨#[]⟩, ⟨#[]⟩, 0, 7) else (s, t ++ y, c, 0)) else (⟨#[]⟩, ⟨#[]⟩, 0, 1)) := by
  unfold file_Append.f
  rw [May_tot s t c hs ht, Option.bind_some]
  cases hm : mayF s t c with
  | false => rfl
  | true =>
    rw [if_pos rfl, if_pos rfl]
    unfold mayF at hm
    have hm := of_decide_eq_true hm
    unfold file_Room.f
    rw [Option.bind_some, show wrap64 (wrap64 (c - (s.size : Int)) - (t.size : Int)) = c - s.size - t.size from by unfold wrap64; omega]
    by_cases h : (y.size : Int) > c - s.size - t.size
    · rw [if_pos h, if_pos h]
    · rw [if_neg h, if_neg h, if_pos (by omega)]
theorem Crash_tot (s t : ByteArray) (c n : Int) (hs : s.size ≤ 1000000000) (ht : t.size ≤ 1000000000) :
    file_Crash.f s t c n = some (if mayF s t c = true then (s ++ t.extract 0 (min (max n 0) t.size).toNat, ⟨#[]⟩, c, 0) else (⟨#[]⟩, ⟨#[]⟩, 0, 1)) := by
  unfold file_Crash.f
  rw [May_tot s t c hs ht, Option.bind_some]
  cases hm : mayF s t c with
  | false => rfl
  | true =>
    have e : mn (mx n 0) (t.size : Int) = min (max n 0) t.size := by unfold mn mx; split <;> (try split) <;> omega
    rw [if_pos rfl, if_pos rfl, e, if_pos (by omega), if_pos (by omega), if_pos (by rw [ByteArray.size_extract]; omega)]
theorem Sync_tot (s t : ByteArray) (c : Int) (hs : s.size ≤ 1000000000) (ht : t.size ≤ 1000000000) :
    file_Sync.f s t c = some (if mayF s t c = true then (s ++ t, ⟨#[]⟩, c, 0) else (⟨#[]⟩, ⟨#[]⟩, 0, 1)) := by
  unfold file_Sync.f
  rw [Crash_tot s t c _ hs ht, Option.bind_some]
  have e : (min (max (t.size : Int) 0) t.size).toNat = t.size := by omega
  rw [e, ByteArray.extract_zero_size]
theorem Recover_tot (s : ByteArray) (c : Int) (hs : s.size ≤ 1000000000) (hm : mayF s ⟨#[]⟩ c = true) (k : Nat) (hk : s.size + 2 ≤ k) :
    journal_Recover.f k s ⟨#[]⟩ c = some ((scanT s).1, s.extract 0 (scanT s).2, ⟨#[]⟩, c, 0) := by
  have hl := scanT_le s
  have hz : (⟨#[]⟩ : ByteArray).size = 0 := rfl
  unfold journal_Recover.f
  rw [May_tot s _ c hs (by omega), Option.bind_some, hm, if_pos rfl, if_pos (by rw [Lib.toList_data]), Scan_tot s hs k (by omega), Option.bind_some]
  simp only
  unfold file_Cut.f
  rw [May_tot s _ c hs (by omega), Option.bind_some, hm, if_pos rfl, if_neg (by omega)]
  obtain ⟨k, rfl⟩ : ∃ j, k = j + 1 := ⟨k - 1, by omega⟩
  rw [file_Cut.j0, decide_eq_false (by omega), if_neg (by simp), if_pos (by rw [Lib.toList_data]), if_pos (by omega), if_pos (by omega)]
  rfl
theorem JAppend_tot (s t : ByteArray) (c : Int) (r : S42) (hs : s.size ≤ 1000000000) (ht : t.size ≤ 1000000000) (hsz : ∀ x : S80, x ∈ r.f5 → x.f0.size ≤ 140737488351232) (k : Nat) (hk : 6000 ≤ k) :
    journal_Append.f k s t c r.f0 r.f1 r.f2 r.f3 r.f4 r.f5 = some (if mayF s t c = true ∧ okR r = true then (if ((frame (spellR r)).size : Int) > c - s.size - t.size then (⟨#[]⟩, ⟨#[]⟩, 0, 7) else (s, t ++ frame (spellR r), c, 0)) else (⟨#[]⟩, ⟨#[]⟩, 0, 1)) := by
  unfold journal_Append.f
  rw [May_tot s t c hs ht, Option.bind_some]
  cases hm : mayF s t c with
  | false => rfl
  | true =>
    rw [if_pos rfl, record_Bytes_tot r hsz k hk, Option.bind_some]
    unfold bytesT
    cases ho : okR r with
    | false => rfl
    | true =>
      have hf := frame_size (spellR r)
      have hz := spellR_size r ho
      simp only [if_true, true_and]
      rw [Append_tot s t _ c hs ht (by omega), Option.bind_some, hm, if_pos rfl]
theorem wakes13_of (k : Nat) (a b : ByteArray × ByteArray × Int × Int) (c : List S42 × ByteArray × ByteArray × Int × Int) (h1 : journal_Append.f k ⟨#[]⟩ ⟨#[]⟩ 99 4 1 0 ⟨#[]⟩ ⟨#[]⟩ ([] : List S80) = some a) (h2 : file_Sync.f a.1 a.2.1 a.2.2.1 = some b)
    (h3 : journal_Recover.f k b.1 b.2.1 b.2.2.1 = some c) (e1 : a.2.2.2 = 0) (e2 : b.2.2.2 = 0) (e3 : c.2.2.2.2 = 0) (e4 : (c.1.length : Int) = 1) (e5 : c.2.1 = b.1) (e6 : c.2.2.1 = b.2.1) (e7 : c.2.2.2.1 = b.2.2.1) : amanuensislaw13_wakes.f k = some true := by
  unfold amanuensislaw13_wakes.f
  rw [h1, Option.bind_some, h2, Option.bind_some, h3, Option.bind_some]
  unfold amanuensislaw13_num.f
  rw [Option.bind_some, if_pos e1, Option.bind_some, if_pos e2, Option.bind_some, if_pos e3, if_pos e4, e5, e6, e7]
  simp
theorem wakes13_tot (k : Nat) (hk : 6000 ≤ k) : amanuensislaw13_wakes.f k = some true := by
  have hok : okR ⟨4, 1, 0, ⟨#[]⟩, ⟨#[]⟩, []⟩ = true := by
    unfold okR
    simp only
    rw [Lib.toList_data]
    rfl
  have ha := JAppend_tot ⟨#[]⟩ ⟨#[]⟩ 99 ⟨4, 1, 0, ⟨#[]⟩, ⟨#[]⟩, []⟩ (Nat.zero_le _) (Nat.zero_le _) (by simp) k hk
  have hs : (spellR ⟨4, 1, 0, ⟨#[]⟩, ⟨#[]⟩, []⟩).size = 16 := by
    unfold spellR spell8
    simp [ByteArray.size, Writer.be32]
  have hf := frame_size (spellR ⟨4, 1, 0, ⟨#[]⟩, ⟨#[]⟩, []⟩)
  have hsc := scanT_frame ⟨4, 1, 0, ⟨#[]⟩, ⟨#[]⟩, []⟩ ⟨#[]⟩ hok
  have hn : scanT ⟨#[]⟩ = ([], 0) := scanT_none (by
    cases h : takeR ⟨#[]⟩ with
    | none => rfl
    | some p => have := takeR_size h; have h0 : (⟨#[]⟩ : ByteArray).size = 0 := rfl; omega)
  rw [hok] at ha
  obtain ⟨F, hF⟩ : ∃ F, frame (spellR ⟨4, 1, 0, ⟨#[]⟩, ⟨#[]⟩, []⟩) = F := ⟨_, rfl⟩
  rw [hF] at ha hsc hf
  have en : F ++ ⟨#[]⟩ = F := by apply ByteArray.ext; simp
  have en2 : (⟨#[]⟩ : ByteArray) ++ F = F := by apply ByteArray.ext; simp
  have hz : (⟨#[]⟩ : ByteArray).size = 0 := rfl
  rw [en, hn] at hsc
  simp only at ha hsc
  have hm0 : mayF ⟨#[]⟩ ⟨#[]⟩ 99 = true := decide_eq_true (by omega)
  rw [if_pos ⟨hm0, trivial⟩, if_neg (by omega), en2] at ha
  have hm1 : mayF ⟨#[]⟩ F 99 = true := decide_eq_true (by omega)
  have hm2 : mayF F ⟨#[]⟩ 99 = true := decide_eq_true (by omega)
  have h2 := Sync_tot ⟨#[]⟩ F 99 (by omega) (by omega)
  rw [hm1, if_pos rfl, en2] at h2
  have h3 := Recover_tot F 99 (by omega) hm2 k (by omega)
  rw [hsc] at h3
  refine wakes13_of k (⟨#[]⟩, F, 99, 0) (F, ⟨#[]⟩, 99, 0) _ ha h2 h3 rfl rfl rfl rfl ?_ rfl rfl
  show F.extract 0 (F.size + 0) = F
  exact ByteArray.extract_zero_size
end Go.Proofs.Ytmhjhhlgdenlkaa.P
set_option linter.unusedVariables false
set_option linter.unusedSimpArgs false
namespace Go.Proofs.Ytmhjhhlgdenlkaa.P
open Go.RowKit Go.Proofs.YtmhjhhlgdenlkaaW.PrintWords
theorem toList_iff (a b : ByteArray) : a.toList = b.toList ↔ a = b := ⟨toList_inj, fun h => by rw [h]⟩
theorem step_ne (x y : S80) : ((!((x.f0.toList) == (y.f0.toList)) || (!((x.f1) == (y.f1)) || (!((x.f2.toList) == (y.f2.toList)) || (!((x.f3.toList) == (y.f3.toList)) || (!((x.f4.toList) == (y.f4.toList)) || (!((x.f5) == (y.f5)))))))) = true) ↔ x ≠ y := by
  obtain ⟨a0, a1, a2, a3, a4, a5⟩ := x
  obtain ⟨b0, b1, b2, b3, b4, b5⟩ := y
  simp only [ne_eq, S80.mk.injEq, Bool.or_eq_true, Bool.not_eq_true', beq_eq_false_iff_ne, toList_iff]
  by_cases h0 : a0 = b0 <;> by_cases h1 : a1 = b1 <;> by_cases h2 : a2 = b2 <;> by_cases h3 : a3 = b3 <;> by_cases h4 : a4 = b4 <;> simp [h0, h1, h2, h3, h4]
theorem rd80 (l : List S80) (i : Nat) (hi : i < l.length) : rd_T80 l (i : Int) = l[i] := by
  simp [rd_T80, List.getD_eq_getElem?_getD, List.getElem?_eq_getElem hi]
theorem drop_iff {α : Type} (l m : List α) (i : Nat) (hi : i < l.length) (hj : i < m.length) : l.drop i = m.drop i ↔ l[i] = m[i] ∧ l.drop (i + 1) = m.drop (i + 1) := by
  rw [List.drop_eq_getElem_cons hi, List.drop_eq_getElem_cons hj]
  exact List.cons.injEq _ _ _ _ ▸ Iff.rfl
theorem EqSteps_l0 (l m : List S80) (he : l.length = m.length) (hl : l.length ≤ 1000000000000000) : ∀ (d k i : Nat), i + d = l.length → d + 1 ≤ k → ∃ b, amanuensisref0_EqSteps.l0 k l m (i : Int) = some b ∧ (b = true ↔ l.drop i = m.drop i)
  | 0, k, i, h, hk => by
    obtain ⟨k, rfl⟩ : ∃ j, k = j + 1 := ⟨k - 1, by omega⟩
    refine ⟨true, by rw [amanuensisref0_EqSteps.l0, if_neg (by omega)], ?_⟩
    rw [List.drop_of_length_le (by omega), List.drop_of_length_le (by omega)]
    simp
  | d + 1, k, i, h, hk => by
    obtain ⟨k, rfl⟩ : ∃ j, k = j + 1 := ⟨k - 1, by omega⟩
    have hi : i < l.length := by omega
    have hj : i < m.length := by omega
    rw [drop_iff l m i hi hj]
    rw [amanuensisref0_EqSteps.l0, if_pos (by omega), if_pos (by omega), if_pos (by omega), rd80 l i hi, rd80 m i hj]
    by_cases hx : l[i] = m[i]
    · rw [if_neg (fun h2 => (step_ne _ _).1 h2 hx), show wrap64 ((i : Int) + 1) = ((i + 1 : Nat) : Int) from by unfold wrap64; omega]
      obtain ⟨b, h1, h2⟩ := EqSteps_l0 l m he hl d k (i + 1) (by omega) (by omega)
      exact ⟨b, h1, by rw [h2]; exact ⟨fun h => ⟨hx, h⟩, fun h => h.2⟩⟩
    · rw [if_pos ((step_ne _ _).2 hx)]
      exact ⟨false, rfl, ⟨fun h => by simp at h, fun h => absurd h.1 hx⟩⟩
theorem EqSteps_any (l m : List S80) (hl : l.length ≤ 1000000000000000) (k : Nat) (hk : l.length + 1 ≤ k) : ∃ b, amanuensisref0_EqSteps.f k l m = some b ∧ (b = true ↔ l = m) := by
  unfold amanuensisref0_EqSteps.f
  by_cases he : l.length = m.length
  · rw [if_pos (by omega)]
    have := EqSteps_l0 l m he hl l.length k 0 (by omega) hk
    simpa using this
  · rw [if_neg (by omega)]
    exact ⟨false, rfl, by simp; intro h; exact he (by rw [h])⟩
theorem EqRecord_any (r q : S42) (hl : r.f5.length ≤ 1000000000000000) (k : Nat) (hk : r.f5.length + 1 ≤ k) : ∃ b, amanuensisref0_EqRecord.f k r.f0 r.f1 r.f2 r.f3 r.f4 r.f5 q.f0 q.f1 q.f2 q.f3 q.f4 q.f5 = some b ∧ (b = true ↔ r = q) := by
  obtain ⟨b, h1, h2⟩ := EqSteps_any r.f5 q.f5 hl k hk
  obtain ⟨a0, a1, a2, a3, a4, a5⟩ := r
  obtain ⟨b0, b1, b2, b3, b4, b5⟩ := q
  unfold amanuensisref0_EqRecord.f
  simp only at h1 h2
  simp only [S42.mk.injEq, toList_iff]
  by_cases g0 : a0 = b0
  · rw [if_pos g0]
    by_cases g1 : a1 = b1
    · rw [if_pos g1]
      by_cases g2 : a2 = b2
      · rw [if_pos g2]
        by_cases g3 : a3 = b3
        · rw [if_pos g3]
          by_cases g4 : a4 = b4
          · rw [if_pos g4, h1]
            exact ⟨b, rfl, by rw [h2]; simp [g0, g1, g2, g3, g4]⟩
          · rw [if_neg g4]; exact ⟨false, rfl, by simp [g4]⟩
        · rw [if_neg g3]; exact ⟨false, rfl, by simp [g3]⟩
      · rw [if_neg g2]; exact ⟨false, rfl, by simp [g2]⟩
    · rw [if_neg g1]; exact ⟨false, rfl, by simp [g1]⟩
  · rw [if_neg g0]; exact ⟨false, rfl, by simp [g0]⟩
theorem rd42 (l : List S42) (i : Nat) (hi : i < l.length) : rd_T42 l (i : Int) = l[i] := by
  simp [rd_T42, List.getD_eq_getElem?_getD, List.getElem?_eq_getElem hi]
theorem EqRecords_l0 (l m : List S42) (N : Nat) (he : l.length = m.length) (hl : l.length ≤ 1000000000000000) (hN : ∀ x, x ∈ l → x.f5.length ≤ N) (hN2 : N ≤ 1000000000000000) : ∀ (d k i : Nat), i + d = l.length → d + N + 2 ≤ k → ∃ b, amanuensisref0_EqRecords.l0 k l m (i : Int) = some b ∧ (b = true ↔ l.drop i = m.drop i)
  | 0, k, i, h, hk => by
    obtain ⟨k, rfl⟩ : ∃ j, k = j + 1 := ⟨k - 1, by omega⟩
    refine ⟨true, by rw [amanuensisref0_EqRecords.l0, if_neg (by omega)], ?_⟩
    rw [List.drop_of_length_le (by omega), List.drop_of_length_le (by omega)]
    simp
  | d + 1, k, i, h, hk => by
    obtain ⟨k, rfl⟩ : ∃ j, k = j + 1 := ⟨k - 1, by omega⟩
    have hi : i < l.length := by omega
    have hj : i < m.length := by omega
    have hz := hN l[i] (List.getElem_mem hi)
    rw [drop_iff l m i hi hj]
    rw [amanuensisref0_EqRecords.l0, if_pos (by omega), if_pos (by omega), if_pos (by omega), rd42 l i hi, rd42 m i hj]
    obtain ⟨c, c1, c2⟩ := EqRecord_any l[i] m[i] (by omega) k (by omega)
    rw [c1, Option.bind_some]
    cases c with
    | true =>
      rw [if_pos rfl, show wrap64 ((i : Int) + 1) = ((i + 1 : Nat) : Int) from by unfold wrap64; omega]
      obtain ⟨b, h1, h2⟩ := EqRecords_l0 l m N he hl hN hN2 d k (i + 1) (by omega) (by omega)
      exact ⟨b, h1, by rw [h2]; exact ⟨fun h => ⟨c2.1 rfl, h⟩, fun h => h.2⟩⟩
    | false =>
      rw [if_neg (by simp)]
      refine ⟨false, rfl, ?_⟩
      have : l[i] ≠ m[i] := fun e => by simpa using c2.2 e
      exact ⟨fun h => by simp at h, fun h => absurd h.1 this⟩
theorem EqRecords_any (l m : List S42) (N : Nat) (hl : l.length ≤ 1000000000000000) (hN : ∀ x, x ∈ l → x.f5.length ≤ N) (hN2 : N ≤ 1000000000000000) (k : Nat) (hk : l.length + N + 2 ≤ k) : ∃ b, amanuensisref0_EqRecords.f k l m = some b ∧ (b = true ↔ l = m) := by
  unfold amanuensisref0_EqRecords.f
  by_cases he : l.length = m.length
  · rw [if_pos (by omega)]
    have := EqRecords_l0 l m N he hl hN hN2 l.length k 0 (by omega) hk
    simpa using this
  · rw [if_neg (by omega)]
    exact ⟨false, rfl, by simp; intro h; exact he (by rw [h])⟩
end Go.Proofs.Ytmhjhhlgdenlkaa.P
set_option linter.unusedVariables false
set_option linter.unusedSimpArgs false
namespace Go.Proofs.Ytmhjhhlgdenlkaa.P
open Go.RowKit Go.Proofs.YtmhjhhlgdenlkaaW.PrintWords
def catR : List S42 → ByteArray
  | [] => ⟨#[]⟩
  | r :: l => frame (spellR r) ++ catR l
theorem nil_app (s : ByteArray) : (⟨#[]⟩ : ByteArray) ++ s = s := by apply ByteArray.ext; simp
theorem app_nil' (s : ByteArray) : s ++ ⟨#[]⟩ = s := by apply ByteArray.ext; simp
theorem catR_append : ∀ (a b : List S42), catR (a ++ b) = catR a ++ catR b
  | [], b => (nil_app _).symm
  | r :: a, b => by rw [List.cons_append, catR, catR, catR_append a b, ByteArray.append_assoc]
theorem catR_snoc (a : List S42) (r : S42) : catR (a ++ [r]) = catR a ++ frame (spellR r) := by
  rw [catR_append, catR, catR, app_nil']
theorem scanT_empty : scanT ⟨#[]⟩ = ([], 0) := scanT_none (by
  cases h : takeR ⟨#[]⟩ with
  | none => rfl
  | some p => have := takeR_size h; have h0 : (⟨#[]⟩ : ByteArray).size = 0 := rfl; omega)
theorem scan_catR : ∀ (l : List S42) (z : ByteArray), (∀ r, r ∈ l → okR r = true) → scanT (catR l ++ z) = (l ++ (scanT z).1, (catR l).size + (scanT z).2)
  | [], z, _ => by rw [catR, nil_app]; have : (⟨#[]⟩ : ByteArray).size = 0 := rfl; rw [this]; simp
  | r :: l, z, h => by
    rw [catR, ByteArray.append_assoc, scanT_frame r _ (h r (by simp)), scan_catR l z (fun q hq => h q (by simp [hq])), ByteArray.size_append]
    simp only [List.cons_append, Nat.add_assoc]
theorem scan_whole (l : List S42) (h : ∀ r, r ∈ l → okR r = true) : scanT (catR l) = (l, (catR l).size) := by
  have := scan_catR l ⟨#[]⟩ h
  rw [app_nil', scanT_empty] at this
  rw [this]; simp
theorem takeR_short {P U : ByteArray} {r : S42} (h : P ++ U = frame (spellR r)) (hU : 0 < U.size) (hr : okR r = true) : takeR P = none := by
  cases hp : takeR P with
  | none => rfl
  | some p =>
    obtain ⟨q, y⟩ := p
    have hi := takeR_inv hp
    have hz := spellR_size r hr
    exfalso
    have e1 : frame (spellR q) ++ (y ++ U) = frame (spellR r) := by rw [← ByteArray.append_assoc, ← hi.1, h]
    have e2 : be4 (spellR q).size ++ (be4 (chk (be4 (spellR q).size ++ spellR q)) ++ (spellR q ++ (y ++ U))) = be4 (spellR r).size ++ (be4 (chk (be4 (spellR r).size ++ spellR r)) ++ spellR r) := by
      have a := e1
      unfold frame at a
      rw [ByteArray.append_assoc, ByteArray.append_assoc, ByteArray.append_assoc] at a
      exact a
    have e3 := be4_inj _ _ (ext_inj e2 (by rw [be4_size, be4_size])).1
    have e4 : (spellR q).size = (spellR r).size := by have := hi.2.2; omega
    have e5 := congrArg ByteArray.size e1
    rw [ByteArray.size_append, ByteArray.size_append, frame_size, frame_size] at e5
    omega
theorem scan_begin : ∀ (l : List S42) (T U : ByteArray), (∀ r, r ∈ l → okR r = true) → T ++ U = catR l →
    ∃ j, j ≤ l.length ∧ scanT T = (l.take j, (catR (l.take j)).size) ∧ (catR (l.take j)).size ≤ T.size ∧ T.extract 0 (catR (l.take j)).size = catR (l.take j) ∧ (j < l.length → T.size < (catR (l.take (j + 1))).size)
  | [], T, U, _, h => by
    have h0 : (⟨#[]⟩ : ByteArray).size = 0 := rfl
    have e : T.size = 0 := by have := congrArg ByteArray.size h; rw [ByteArray.size_append, catR] at this; omega
    have hT : T = ⟨#[]⟩ := by
      apply ByteArray.ext
      exact Array.eq_empty_of_size_eq_zero e
    refine ⟨0, Nat.le_refl _, by rw [hT, scanT_empty]; rfl, by rw [e]; exact Nat.le_refl _, ?_, fun h => by simp at h⟩
    rw [hT]; rfl
  | r :: l, T, U, hok, h => by
    have hr := hok r (by simp)
    by_cases hs : (frame (spellR r)).size ≤ T.size
    · have e0 := ext_split T (frame (spellR r)).size hs
      have hz : (T.extract 0 (frame (spellR r)).size).size = (frame (spellR r)).size := by rw [ByteArray.size_extract]; omega
      have e1 : T.extract 0 (frame (spellR r)).size ++ (T.extract (frame (spellR r)).size T.size ++ U) = frame (spellR r) ++ catR l := by
        rw [← ByteArray.append_assoc, ← e0, h, catR]
      obtain ⟨e2, e3⟩ := ext_inj e1 hz
      obtain ⟨j, hj, hsc, hle, hex, hlt⟩ := scan_begin l _ U (fun q hq => hok q (by simp [hq])) e3
      obtain ⟨T', hT'⟩ : ∃ t, T.extract (frame (spellR r)).size T.size = t := ⟨_, rfl⟩
      rw [e2, hT'] at e0
      rw [hT'] at hsc hle hex hlt e3
      have hTs : T.size = (frame (spellR r)).size + T'.size := by conv => lhs; rw [e0]; rw [ByteArray.size_append]
      refine ⟨j + 1, by simp; omega, ?_, ?_, ?_, ?_⟩
      · rw [e0, scanT_frame r _ hr, hsc, List.take_succ_cons, catR, ByteArray.size_append]
      · rw [List.take_succ_cons, catR, ByteArray.size_append]; omega
      · rw [List.take_succ_cons, catR, ByteArray.size_append]
        have e4 : T'.extract 0 (catR (l.take j)).size ++ T'.extract (catR (l.take j)).size T'.size = T' := (ext_split T' _ hle).symm
        rw [hex] at e4
        have e5 : T = (frame (spellR r) ++ catR (l.take j)) ++ T'.extract (catR (l.take j)).size T'.size := by rw [ByteArray.append_assoc, e4]; exact e0
        have e6 := ext_left (frame (spellR r) ++ catR (l.take j)) (T'.extract (catR (l.take j)).size T'.size)
        rw [← e5, ByteArray.size_append] at e6
        exact e6
      · intro hjl
        rw [List.take_succ_cons, catR, ByteArray.size_append]
        have := hlt (by simpa using hjl)
        omega
    · have e1 : ∃ U', T ++ U' = frame (spellR r) ∧ 0 < U'.size := by
        have hFs : (frame (spellR r)).size = T.size + ((frame (spellR r)).extract T.size (frame (spellR r)).size).size := by rw [ByteArray.size_extract]; omega
        have e0 := ext_split (frame (spellR r)) T.size (by omega)
        rw [catR] at h
        have e2 : T ++ U = (frame (spellR r)).extract 0 T.size ++ ((frame (spellR r)).extract T.size (frame (spellR r)).size ++ catR l) := by rw [← ByteArray.append_assoc, ← e0]; exact h
        have e3 := (ext_inj e2 (by rw [ByteArray.size_extract]; omega)).1
        rw [← e3] at e0
        exact ⟨(frame (spellR r)).extract T.size (frame (spellR r)).size, e0.symm, by omega⟩
      obtain ⟨U', hU', hpos⟩ := e1
      refine ⟨0, Nat.zero_le _, ?_, Nat.zero_le _, ?_, fun _ => ?_⟩
      · rw [scanT_none (takeR_short hU' hpos hr)]; rfl
      · show T.extract 0 0 = ⟨#[]⟩
        apply ByteArray.ext; simp
      · show T.size < (frame (spellR r) ++ catR (l.take 0)).size
        rw [ByteArray.size_append]; omega
theorem catR_take_le (l : List S42) (a b : Nat) (h : a ≤ b) : (catR (l.take a)).size ≤ (catR (l.take b)).size := by
  have e : l.take b = l.take a ++ (l.take b).drop a := by
    have := (List.take_append_drop a (l.take b)).symm
    rwa [List.take_take, Nat.min_eq_left h] at this
  rw [e, catR_append, ByteArray.size_append]
  omega
theorem keeps_crash (all : List S42) (m : Nat) (hm : m ≤ all.length) (hok : ∀ r, r ∈ all → okR r = true) (q : Nat) :
    ∃ j, m ≤ j ∧ j ≤ all.length ∧ scanT (catR (all.take m) ++ (catR (all.drop m)).extract 0 q) = (all.take j, (catR (all.take j)).size) ∧
      (catR (all.take m) ++ (catR (all.drop m)).extract 0 q).extract 0 (catR (all.take j)).size = catR (all.take j) ∧ scanT (catR (all.take j)) = (all.take j, (catR (all.take j)).size) := by
  have e : (catR (all.take m) ++ (catR (all.drop m)).extract 0 q) ++ (catR (all.drop m)).extract q (catR (all.drop m)).size = catR all ∨ (catR (all.take m) ++ (catR (all.drop m)).extract 0 q) ++ ⟨#[]⟩ = catR all := by
    have e2 : catR all = catR (all.take m) ++ catR (all.drop m) := by rw [← catR_append, List.take_append_drop]
    by_cases hq : q ≤ (catR (all.drop m)).size
    · left
      rw [ByteArray.append_assoc, ← ext_split _ q hq, e2]
    · right
      have : (catR (all.drop m)).extract 0 q = catR (all.drop m) := by
        have h1 := ByteArray.extract_zero_size (b := catR (all.drop m))
        rw [← h1]
        apply ByteArray.ext
        simp
        omega
      rw [app_nil', this, e2]
  have hU : ∃ U, (catR (all.take m) ++ (catR (all.drop m)).extract 0 q) ++ U = catR all := by rcases e with e | e <;> exact ⟨_, e⟩
  obtain ⟨U, hU⟩ := hU
  obtain ⟨j, hj, hsc, hle, hex, hlt⟩ := scan_begin all _ U hok hU
  refine ⟨j, ?_, hj, hsc, hex, scan_whole _ (fun r hr => hok r (List.mem_of_mem_take hr))⟩
  rcases Nat.lt_or_ge j m with h | h
  · exfalso
    have h1 := hlt (by omega)
    have h2 := catR_take_le all (j + 1) m (by omega)
    rw [ByteArray.size_append] at h1
    omega
  · exact h
end Go.Proofs.Ytmhjhhlgdenlkaa.P
set_option linter.unusedVariables false
set_option linter.unusedSimpArgs false
namespace Go.Proofs.Ytmhjhhlgdenlkaa.P
open Go.RowKit Go.Proofs.YtmhjhhlgdenlkaaW.PrintWords Go.Proofs.YtmhjhhlgdenlkaaW.PrintLast Go.Proofs.YtmhjhhlgdenlkaaW.PrintMore
attribute [local go_sem high] eqA30
structure Jk (w : World) (gb gf : Nat) (pc : Array Value) (s t : ByteArray) (v : Value) (all : List S42) (W : World) : Prop where
  X : W.heap[gb]? = some (.cells pc 35 (0, 0))
  F : W.heap[gf]? = some (.cells #[.string s, .string t, .int .i64 20000] 30 (0, 0))
  B : Below w.heap.size w W
  R : Kd.N k42 42 W w.heap.size (fun k => k ≠ gb ∧ k ≠ gf) v all
  G : w.heap.size ≤ gb
  G2 : w.heap.size ≤ gf
  ne : gb ≠ gf
theorem Jk.below {w W W' : World} {gb gf : Nat} {pc : Array Value} {s t : ByteArray} {v : Value} {all : List S42} (h : Jk w gb gf pc s t v all W) (hb : Below W.heap.size W W') : Jk w gb gf pc s t v all W' :=
  ⟨(hb.block gb (Array.getElem?_eq_some_iff.1 h.X).1).trans h.X, (hb.block gf (Array.getElem?_eq_some_iff.1 h.F).1).trans h.F, below_step h.B hb, Kd.N_below h.R hb, h.G, h.G2, h.ne⟩
theorem Jk.put {w W : World} {gb gf : Nat} {pc : Array Value} {s t : ByteArray} {v : Value} {all : List S42} (h : Jk w gb gf pc s t v all W) (s' t' : ByteArray) :
    Jk w gb gf pc s' t' v all (((W.setCell ⟨gf, 0, none⟩ (.string s')).setCell ⟨gf, 1, none⟩ (.string t')).setCell ⟨gf, 2, none⟩ (.int .i64 20000)) :=
  ⟨(Below.heap_setCell _ ⟨gf, 2, none⟩ _ gb h.ne).trans ((Below.heap_setCell _ ⟨gf, 1, none⟩ _ gb h.ne).trans ((Below.heap_setCell _ ⟨gf, 0, none⟩ _ gb h.ne).trans h.X)),
   blk_put' (blk_put' (blk_put' h.F 0 (.string s')) 1 (.string t')) 2 (.int .i64 20000),
   ((h.B.setCell (p := ⟨gf, 0, none⟩) h.G2 _).setCell (p := ⟨gf, 1, none⟩) h.G2 _).setCell (p := ⟨gf, 2, none⟩) h.G2 _,
   Kd.N_far (p := ⟨gf, 2, none⟩) (Kd.N_far (p := ⟨gf, 1, none⟩) (Kd.N_far (p := ⟨gf, 0, none⟩) h.R (fun _ hk => hk.2) _) (fun _ hk => hk.2) _) (fun _ hk => hk.2) _, h.G, h.G2, h.ne⟩
theorem Jk.grown {w W W' : World} {gb gf : Nat} {pc : Array Value} {s t : ByteArray} {v v1 : Value} {all al : List S42} (h : Jk w gb gf pc s t v all W) (ho : Kd.N k42 42 W' w.heap.size (fun k => k ≠ gb ∧ k ≠ gf) v1 al) (hb : Below w.heap.size w W') (hg : W.grownBy W' v.ownBlock) : Jk w gb gf pc s t v1 al W' :=
  ⟨(hg.block gb (Array.getElem?_eq_some_iff.1 h.X).1 (fun e => (h.R.1 gb e.symm).1 rfl)).trans h.X, (hg.block gf (Array.getElem?_eq_some_iff.1 h.F).1 (fun e => (h.R.1 gf e.symm).2 rfl)).trans h.F, hb, ho, h.G, h.G2, h.ne⟩
theorem jk_okp {w W : World} {gb gf : Nat} {pc : Array Value} {s t : ByteArray} {v : Value} {all : List S42} (h : Jk w gb gf pc s t v all W) : ∀ k, k < w.heap.size → (k ≠ gb ∧ k ≠ gf) ∧ some k ≠ v.ownBlock := fun k hk =>
  ⟨⟨fun e => by have := h.G; omega, fun e => by have := h.G2; omega⟩, fun e => by have := Kd.N_base h.R k e.symm; omega⟩
theorem jk_fresh {w W : World} {gb gf : Nat} {pc : Array Value} {s t : ByteArray} {v : Value} {all : List S42} (h : Jk w gb gf pc s t v all W) : ∀ k, W.heap.size ≤ k → k ≠ gb ∧ k ≠ gf := fun k hk =>
  ⟨fun e => by have := (Array.getElem?_eq_some_iff.1 h.X).1; omega, fun e => by have := (Array.getElem?_eq_some_iff.1 h.F).1; omega⟩
theorem mayF_of {s t : ByteArray} {c : Int} (h : 1 ≤ c ∧ c ≤ 60000 ∧ (s.size : Int) + t.size ≤ c) : mayF s t c = true := decide_eq_true h
theorem file_put {w W : World} {g : Nat} (hb : Below w.heap.size w W) (hg : w.heap.size ≤ g) (hn : W.heap[g]? = some (.cells #[.string ⟨#[]⟩, .string ⟨#[]⟩, .int .i64 0] 30 (0, 0))) (a b : ByteArray) (c : Int) :
    Below w.heap.size w (((W.setCell ⟨g, 0, none⟩ (.string a)).setCell ⟨g, 1, none⟩ (.string b)).setCell ⟨g, 2, none⟩ (.int .i64 c)) ∧
    (((W.setCell ⟨g, 0, none⟩ (.string a)).setCell ⟨g, 1, none⟩ (.string b)).setCell ⟨g, 2, none⟩ (.int .i64 c)).heap[g]? = some (.cells #[.string a, .string b, .int .i64 c] 30 (0, 0)) :=
  ⟨((hb.setCell (p := ⟨g, 0, none⟩) hg _).setCell (p := ⟨g, 1, none⟩) hg _).setCell (p := ⟨g, 2, none⟩) hg _, blk_put' (blk_put' (blk_put' hn 0 (.string a)) 1 (.string b)) 2 (.int .i64 c)⟩
theorem f80 {w : World} {A : Option Addr} {l : List S80} (h : Kd.C k80 w A l.length l) : Kd.F k80 w (fun k => k < w.heap.size) A l.length l :=
  Kd.C_F (Kd.heap_iso _ (Kd.heap_pair Kd.heap_string (Kd.heap_pair (Kd.heap_int _) (Kd.heap_pair Kd.heap_string (Kd.heap_pair Kd.heap_string (Kd.heap_pair Kd.heap_string (Kd.heap_int _))))))) h
structure Jp (s t : ByteArray) (all : List S42) (m : Nat) : Prop where
  hs : s = catR (all.take m)
  ht : t = catR (all.drop m)
  hm : m ≤ all.length
  hok : ∀ r, r ∈ all → okR r = true
  hz : s.size + t.size ≤ 20000
  hl : all.length ≤ 8
set_option maxHeartbeats 16000000 in
set_option maxRecDepth 100000 in
theorem JournalKeeps_calls (A0 : Option Addr) (c0 : Nat) (l0 : List S42) (A1 : Option Addr) (c1 : Nat) (l1 : List ByteArray) (A2 : Option Addr) (c2 : Nat) (l2 : List Int) (ps pt : ByteArray) (pc pn : Int) (A3 : Option Addr) (c3 : Nat) (l3 : List S77) (w : World)
    (hl0 : l0.length ≤ c0) (hC0 : Kd.C k42 w A0 l0.length l0) (hl1 : l1.length ≤ c1) (hC1 : Kd.C Kd.string w A1 l1.length l1) (hl2 : l2.length ≤ c2) (hC2 : Kd.C (Kd.int .i64) w A2 l2.length l2) (hl3 : l3.length ≤ c3) (hC3 : Kd.C k77 w A3 l3.length l3)
    (hz0 : l0.length ≤ 1048576) (hz1 : l1.length ≤ 1048576) (hz3 : l3.length ≤ 1048576) (hzr : ∀ r, r ∈ l0 → r.f5.length ≤ 1048576 ∧ ∀ x : S80, x ∈ r.f5 → x.f0.size ≤ 140737488351232) :
    Calls Try.prog 3 #[.agg #[.slice A0 l0.length c0, .slice A1 l1.length c1, .slice A2 l2.length c2, .string ps, .string pt, .int .i64 pc, .int .i64 pn, .slice A3 l3.length c3]] w fun e w' => e = .returned (.bool true) ∧ Below w.heap.size w w' := by
  obtain ⟨bh, hbh⟩ := Heavy13_any l0 l1 l2 ps pt pc pn l3 1048576 hz0 hz1 (fun r hr => (hzr r hr).1) hz3 (by omega) 3000000 (by omega)
  have hH := fun (W : World) (hb : Below w.heap.size w W) => amanuensislaw13_Heavy.calls 3000000 A0 c0 l0 A1 c1 l1 A2 c2 l2 ps pt pc pn A3 c3 l3 bh W (Kd.C_below hC0 hb) hl0 (Kd.C_below hC1 hb) hl1 (Kd.C_below hC2 hb) hl2 (Kd.C_below hC3 hb) hl3 hbh
  have hX0 : (w.alloc (.cells #[.slice A0 l0.length c0, .slice A1 l1.length c1, .slice A2 l2.length c2, .string ps, .string pt, .int .i64 pc, .int .i64 pn, .slice A3 l3.length c3] 35)).heap[w.heap.size]? = some (.cells #[.slice A0 l0.length c0, .slice A1 l1.length c1, .slice A2 l2.length c2, .string ps, .string pt, .int .i64 pc, .int .i64 pn, .slice A3 l3.length c3] 35 (0, 0)) := heap_alloc_new _ _
  have hB0 : Below w.heap.size w (w.alloc (.cells #[.slice A0 l0.length c0, .slice A1 l1.length c1, .slice A2 l2.length c2, .string ps, .string pt, .int .i64 pc, .int .i64 pn, .slice A3 l3.length c3] 35)) := below_alloc (Below.refl _ _) _
  have HH := Lib.hid (hH _ hB0)
  have HX0 := Lib.hid hX0
  have HB0 := Lib.hid hB0
  have HC0 := Lib.hid hC0
  have HZR := Lib.hid hzr
  have HL0 := Lib.hid hl0
  have HN := Lib.hid (fun (v : Int) (W : World) => amanuensislaw13_num.calls v v W rfl)
  have HW := Lib.hid (fun W => amanuensislaw13_wakes.calls 6000 true W (wakes13_tot 6000 (Nat.le_refl _)))
  clear hH hX0 hB0 hC0 hzr hbh hC1 hC2 hC3 hl0 hl1 hl2 hl3 hz1 hz3
  go_enter Try.func3, Try.ntmps3
  go_wp2_with fail
  refine HH.out.mono ?_
  rintro e w1 ⟨rfl, hb1⟩
  have hx1 := (hb1.block w.heap.size (Array.getElem?_eq_some_iff.1 HX0.out).1).trans HX0.out
  have hB1 := below_step HB0.out hb1
  have hne1 := (Array.getElem?_eq_some_iff.1 hx1).1
  obtain ⟨pcs, hpcs⟩ : ∃ p : Array Value, #[.slice A0 l0.length c0, .slice A1 l1.length c1, .slice A2 l2.length c2, .string ps, .string pt, .int .i64 pc, .int .i64 pn, .slice A3 l3.length c3] = p := ⟨_, rfl⟩
  have hJ : Jk w w.heap.size w1.heap.size pcs ⟨#[]⟩ ⟨#[]⟩ (.slice none 0 0) [] (w1.alloc (.cells #[.string ⟨#[]⟩, .string ⟨#[]⟩, .int .i64 20000] 30)) :=
    ⟨by rw [← hpcs]; exact (Lib.alloc_old _ _ _ hne1).trans hx1, heap_alloc_new _ _, below_alloc hB1 _, Kd.N_nil _ _ _ _ _, Nat.le_refl _, hB1.size, by omega⟩
  have HJ := Lib.hid hJ
  have HB1 := Lib.hid hB1
  have HPC := Lib.hid hpcs
  clear hJ hb1 hx1 hB1 hne1 HH HX0 HB0 hpcs
  cases bh with
  | true =>
    go_wp2
    go_ret
    exact ⟨rfl, HB1.out⟩
  | false =>
    go_wp2
    obtain ⟨gf, hgf⟩ : ∃ g, w1.heap.size = g := ⟨_, rfl⟩
    rw [hgf] at HJ ⊢
    clear HB1
    go_loopw [4, 5, 6] (fun sy v i wr => ∃ (y : Int) (m : Nat) (all : List S42) (s t : ByteArray), 0 ≤ y ∧ y ≤ l0.length ∧ y ≤ 8 ∧ i = .int .i64 y ∧ sy = .int .i64 m ∧ Hid (all.length ≤ y.toNat) ∧ Hid (Jp s t all m) ∧ Hid (Jk w w.heap.size gf pcs s t v all wr)) (fun _ _ i _ => 8 - (intOf i).toNat)
    case atStart => exact ⟨0, 0, [], ⟨#[]⟩, ⟨#[]⟩, by omega, by omega, by omega, rfl, rfl, Lib.hid (Nat.le_refl _), Lib.hid ⟨rfl, rfl, Nat.le_refl _, by simp, Nat.zero_le _, Nat.zero_le _⟩, HJ⟩
    case round =>
      clear HJ
      obtain ⟨y, m, all, s, t, hy0, hy1, hy2, rfl, rfl, HLA, HP, HJ⟩ := hrel
      have hjx := HJ.out.X
      rw [← HPC.out] at hjx
      have cb0 : wr.cell? ⟨w.heap.size, 0, none⟩ = some (.slice A0 l0.length c0) := (Lib.cell_of_heap hjx 0).trans rfl
      have cb6 : wr.cell? ⟨w.heap.size, 6, none⟩ = some (.int .i64 pn) := (Lib.cell_of_heap hjx 6).trans rfl
      clear hjx
      by_cases g1 : y < l0.length
      · by_cases g2 : y < 8
        · have cf0 : wr.cell? ⟨gf, 0, none⟩ = some (.string s) := (Lib.cell_of_heap HJ.out.F 0).trans rfl
          have cf1 : wr.cell? ⟨gf, 1, none⟩ = some (.string t) := (Lib.cell_of_heap HJ.out.F 1).trans rfl
          have cf2 : wr.cell? ⟨gf, 2, none⟩ = some (.int .i64 20000) := (Lib.cell_of_heap HJ.out.F 2).trans rfl
          obtain ⟨ad, A5, c5, eA, u0, u1, u2', u3, u4', u5', hl5, hC5⟩ := at_T42 HC0.out y hy0 g1
          have hmem : rd_T42 l0 y ∈ l0 := by
            have : rd_T42 l0 y = l0[y.toNat]'(by omega) := by simp [rd_T42, List.getD_eq_getElem?_getD, List.getElem?_eq_getElem (show y.toNat < l0.length by omega)]
            rw [this]
            exact List.getElem_mem _
          obtain ⟨r, hr⟩ : ∃ r, rd_T42 l0 y = r := ⟨_, rfl⟩
          rw [hr] at u0 u1 u2' u3 u4' u5' hl5 hC5 hmem
          have hF5 := f80 hC5
          subst eA
          have hrs := HZR.out r hmem
          have k0 := pw_cell_below HJ.out.B u0
          have k1 := pw_cell_below HJ.out.B u1
          have k2 := pw_cell_below HJ.out.B u2'
          have k3 := pw_cell_below HJ.out.B u3
          have k4 := pw_cell_below HJ.out.B u4'
          have k5 := pw_cell_below HJ.out.B u5'
          have HU := Lib.hid (And.intro u0 (And.intro u1 (And.intro u2' (And.intro u3 (And.intro u4' u5')))))
          clear u0 u1 u2' u3 u4' u5'
          have hzs := HP.out.hz
          obtain ⟨⟨q1, q2, q3, q4⟩, hq⟩ : ∃ x : ByteArray × ByteArray × Int × Int, (if mayF s t 20000 = true ∧ okR r = true then (if ((frame (spellR r)).size : Int) > 20000 - s.size - t.size then (⟨#[]⟩, ⟨#[]⟩, 0, 7) else (s, t ++ frame (spellR r), 20000, 0)) else (⟨#[]⟩, ⟨#[]⟩, 0, 1)) = x := ⟨_, rfl⟩
          have hap := JAppend_tot s t 20000 r (by omega) (by omega) hrs.2 6000 (Nat.le_refl _)
          rw [hq] at hap
          have hAP := fun (W : World) (hb : Below wr.heap.size wr W) => journal_Append.calls 6000 s t 20000 r.f0 r.f1 r.f2 r.f3 r.f4 A5 c5 r.f5 q1 q2 q3 q4 W (Kd.C_below hC5 (below_step HJ.out.B hb)) hl5 hap
          have HAP := Lib.hid hAP
          have HQ := Lib.hid hq
          have HF5 := Lib.hid hF5
          have HL5 := Lib.hid hl5
          have HY := Lib.hid (And.intro hy0 (And.intro g1 g2))
          have i1 : (0 ≤ y) = True := eq_true hy0
          have i2 : (y < (l0.length : Int)) = True := eq_true g1
          clear hAP hap hq hF5 hl5 hrs hzs hr hmem hC5 hy0 hy1 hy2
          go_wp2
          refine start_ (n := 14) (S := fun w' => w'.cell? ⟨gf, 0, none⟩ = some (.string s) ∧ w'.cell? ⟨gf, 1, none⟩ = some (.string t) ∧ w'.cell? ⟨gf, 2, none⟩ = some (.int .i64 20000) ∧ w'.cell? ⟨w.heap.size, 0, none⟩ = some (.slice (some ad) l0.length c0) ∧ w'.cell? (ad.add (y.toNat * 6)) = some (.int .i64 r.f0) ∧ w'.cell? ⟨(ad.add (y.toNat * 6)).block, (ad.add (y.toNat * 6)).off + 1, none⟩ = some (.int .i64 r.f1) ∧ w'.cell? ⟨(ad.add (y.toNat * 6)).block, (ad.add (y.toNat * 6)).off + 2, none⟩ = some (.int .i64 r.f2) ∧ w'.cell? ⟨(ad.add (y.toNat * 6)).block, (ad.add (y.toNat * 6)).off + 3, none⟩ = some (.string r.f3) ∧ w'.cell? ⟨(ad.add (y.toNat * 6)).block, (ad.add (y.toNat * 6)).off + 4, none⟩ = some (.string r.f4) ∧ w'.cell? ⟨(ad.add (y.toNat * 6)).block, (ad.add (y.toNat * 6)).off + 5, none⟩ = some (.slice A5 r.f5.length c5)) (ds := [12]) #[false, false, false, false, false, false, false, false, false, false, false, false, false, false] (by kernel_rfl) rfl rfl ⟨cf0, cf1, cf2, cb0, k0, k1, k2, k3, k4, k5⟩ (fun hHeld => ?_)
          refine pure_ (i := 1) (N := some 37) (v := ?_) (a' := ?_) #[false, true, false, false, false, false, false, false, false, false, false, false, false, false] rfl rfl (by kernel_rfl) (fun _ _ _ h => h) (Or.inl ⟨by rfl, ?_⟩) ?_ ?_
          rotate_left
          · intro w'
            go_simp
            with_reducible rfl
          rotate_left
          · simp only [Act.put, List.setIfInBounds_toArray, List.set_cons_zero, List.set_cons_succ, i64_w, i32_w]
            rfl
          refine pure_ (i := 2) (N := some 38) (v := ?_) (a' := ?_) #[false, true, true, false, false, false, false, false, false, false, false, false, false, false] rfl rfl (by kernel_rfl) (fun _ _ _ h => h) (Or.inl ⟨by rfl, ?_⟩) ?_ ?_
          rotate_left
          · intro w'
            go_simp
            with_reducible rfl
          rotate_left
          · simp only [Act.put, List.setIfInBounds_toArray, List.set_cons_zero, List.set_cons_succ, i64_w, i32_w]
            rfl
          refine pure_ (i := 4) (N := some 40) (v := ?_) (a' := ?_) #[false, true, true, false, true, false, false, false, false, false, false, false, false, false] rfl rfl (by kernel_rfl) (fun _ _ _ h => h) (Or.inl ⟨by rfl, ?_⟩) ?_ ?_
          rotate_left
          · intro w'
            go_simp
            with_reducible rfl
          rotate_left
          · simp only [Act.put, List.setIfInBounds_toArray, List.set_cons_zero, List.set_cons_succ, i64_w, i32_w]
            rfl
          refine take_ (i := 0) (N := some 36) (v := ?_) (a' := ?_) #[true, true, true, false, true, false, false, false, false, false, false, false, false, false] rfl rfl (by kernel_rfl) (fun _ _ _ h => h) (Or.inl ⟨by rfl, ?_⟩) hHeld ?_ ?_
          rotate_left
          · rintro w' ⟨s0, s1, s2, s3, s4, s5, s6, s7, s8, s9⟩
            go_simp
            with_reducible rfl
          rotate_left
          · simp only [Act.put, List.setIfInBounds_toArray, List.set_cons_zero, List.set_cons_succ, i64_w, i32_w]
            rfl
          refine take_ (i := 3) (N := some 39) (v := ?_) (a' := ?_) #[true, true, true, true, true, false, false, false, false, false, false, false, false, false] rfl rfl (by kernel_rfl) (fun _ _ _ h => h) (Or.inl ⟨by rfl, ?_⟩) hHeld ?_ ?_
          rotate_left
          · rintro w' ⟨s0, s1, s2, s3, s4, s5, s6, s7, s8, s9⟩
            go_simp
            with_reducible rfl
          rotate_left
          · simp only [Act.put, List.setIfInBounds_toArray, List.set_cons_zero, List.set_cons_succ, i64_w, i32_w]
            rfl
          refine pure_ (i := 5) (N := some 41) (v := ?_) (a' := ?_) #[true, true, true, true, true, true, false, false, false, false, false, false, false, false] rfl rfl (by kernel_rfl) (fun _ _ _ h => h) (Or.inl ⟨by rfl, ?_⟩) ?_ ?_
          rotate_left
          · intro w'
            go_simp
            with_reducible rfl
          rotate_left
          · simp only [Act.put, List.setIfInBounds_toArray, List.set_cons_zero, List.set_cons_succ, i64_w, i32_w]
            rfl
          refine take_ (i := 6) (N := some 42) (v := ?_) (a' := ?_) #[true, true, true, true, true, true, true, false, false, false, false, false, false, false] rfl rfl (by kernel_rfl) (fun _ _ _ h => h) (Or.inl ⟨by rfl, ?_⟩) hHeld ?_ ?_
          rotate_left
          · rintro w' ⟨s0, s1, s2, s3, s4, s5, s6, s7, s8, s9⟩
            go_simp
            with_reducible rfl
          rotate_left
          · simp only [Act.put, List.setIfInBounds_toArray, List.set_cons_zero, List.set_cons_succ, i64_w, i32_w]
            rfl
          refine join_ (σ := Nat) 2 #[true, true, true, true, true, true, true, true, true, true, true, true, false, false] (fun g => [(43, .tuple #[.agg #[.string q1, .string q2, .int .i64 q3], .int .i64 q4]), (35, .tuple #[.agg #[.string q1, .string q2, .int .i64 q3], .int .i64 q4]), (44, .agg #[.string q1, .string q2, .int .i64 q3]), (45, .int .i64 q4), (7, .pointer (some ⟨g, 0, none⟩))]) (fun g w' => Below wr.heap.size wr w' ∧ wr.heap.size ≤ g ∧ w'.heap[g]? = some (.cells #[.string ⟨#[]⟩, .string ⟨#[]⟩, .int .i64 0] 30 (0, 0))) ?_ ?_
          rotate_left
          · intro hCont
            refine two_ (i := 7) (j := 11) (Ni := some 43) (Nj := some 7) #[true, true, true, true, true, true, true, true, false, false, false, false, false, false] #[true, true, true, true, true, true, true, false, false, false, false, true, false, false] rfl rfl rfl rfl (by kernel_rfl) (by decide) (by decide) (fun K hK => ?_) (fun K hK => ?_)
            · skip
              refine goes_ Try.func7 (by kernel_rfl) rfl #[.agg #[.string s, .string t, .int .i64 20000], .agg #[.int .i64 r.f0, .int .i64 r.f1, .int .i64 r.f2, .string r.f3, .string r.f4, .slice A5 r.f5.length c5]] (by rfl) rfl rfl (by (try simp only [List.map_toArray, List.map_cons, List.map_nil]); first | done | rfl) ?_
              refine (HAP.out _ (by repeat (first | exact Below.refl _ _ | assumption | apply below_drew1 | apply below_alloc | apply pw_below_drewN))).mono ?_
              rintro e w3 ⟨rfl, hb3⟩
              refine ⟨_, rfl, ?_⟩
              have hq : Below wr.heap.size wr w3 := below_step (by repeat (first | exact Below.refl _ _ | assumption | apply below_drew1 | apply below_alloc | apply pw_below_drewN)) hb3
              refine hK.out _ _ ⟨(pw_cell_below hq cf0), (pw_cell_below hq cf1), (pw_cell_below hq cf2), (pw_cell_below hq cb0), (pw_cell_below hq k0), (pw_cell_below hq k1), (pw_cell_below hq k2), (pw_cell_below hq k3), (pw_cell_below hq k4), (pw_cell_below hq k5)⟩ (fun hHeld => ?_)
              clear hK K
              refine norm_ (a' := ?_) ?_ ?_
              rotate_left
              · show Act.put _ (some 43) _ = _
                simp only [Act.put, List.setIfInBounds_toArray, List.set_cons_zero, List.set_cons_succ, i64_w, i32_w]
                rfl
              refine pure_ (i := 8) (N := some 35) (v := ?_) (a' := ?_) #[true, true, true, true, true, true, true, true, true, false, false, false, false, false] rfl rfl (by kernel_rfl) (fun _ _ _ h => h) (Or.inl ⟨by rfl, ?_⟩) ?_ ?_
              rotate_left
              · intro w'
                go_simp
                with_reducible rfl
              rotate_left
              · simp only [Act.put, List.setIfInBounds_toArray, List.set_cons_zero, List.set_cons_succ, i64_w, i32_w]
                rfl
              refine pure_ (i := 9) (N := some 44) (v := ?_) (a' := ?_) #[true, true, true, true, true, true, true, true, true, true, false, false, false, false] rfl rfl (by kernel_rfl) (fun _ _ _ h => h) (Or.inl ⟨by rfl, ?_⟩) ?_ ?_
              rotate_left
              · intro w'
                go_simp
                with_reducible rfl
              rotate_left
              · simp only [Act.put, List.setIfInBounds_toArray, List.set_cons_zero, List.set_cons_succ, i64_w, i32_w]
                rfl
              refine pure_ (i := 10) (N := some 45) (v := ?_) (a' := ?_) #[true, true, true, true, true, true, true, true, true, true, true, false, false, false] rfl rfl (by kernel_rfl) (fun _ _ _ h => h) (Or.inl ⟨by rfl, ?_⟩) ?_ ?_
              rotate_left
              · intro w'
                go_simp
                with_reducible rfl
              rotate_left
              · simp only [Act.put, List.setIfInBounds_toArray, List.set_cons_zero, List.set_cons_succ, i64_w, i32_w]
                rfl
              refine one_ (i := 11) (N := some 7) #[true, true, true, true, true, true, true, true, true, true, true, true, false, false] rfl rfl (by kernel_rfl) (by decide) (fun K hK => ?_)
              refine value_ (w1 := ?_) (v := ?_) (by rfl) rfl ?_ ?_
              rotate_left 2
              · go_simp
                constructor
                · rfl
                · rfl
              refine hK.out _ _ ⟨(pw_cell_below (below_alloc hq _) cf0), (pw_cell_below (below_alloc hq _) cf1), (pw_cell_below (below_alloc hq _) cf2), (pw_cell_below (below_alloc hq _) cb0), (pw_cell_below (below_alloc hq _) k0), (pw_cell_below (below_alloc hq _) k1), (pw_cell_below (below_alloc hq _) k2), (pw_cell_below (below_alloc hq _) k3), (pw_cell_below (below_alloc hq _) k4), (pw_cell_below (below_alloc hq _) k5)⟩ (fun hHeld => ?_)
              clear hK K
              refine norm_ (a' := ?_) ?_ ?_
              rotate_left
              · show Act.put _ (some 7) _ = _
                simp only [Act.put, List.setIfInBounds_toArray, List.set_cons_zero, List.set_cons_succ, i64_w, i32_w]
                rfl
              exact norm_ (by simp only [putAll, Act.put, List.setIfInBounds_toArray, List.set_cons_zero, List.set_cons_succ]) (hCont w3.heap.size _ ⟨below_alloc hq _, hq.size, heap_alloc_new w3 _⟩)
            · skip
              refine value_ (w1 := ?_) (v := ?_) (by rfl) rfl ?_ ?_
              rotate_left 2
              · go_simp
                constructor
                · rfl
                · rfl
              refine hK.out _ _ ⟨(pw_cell_below (below_alloc (below_drew1 (Below.refl _ _)) _) cf0), (pw_cell_below (below_alloc (below_drew1 (Below.refl _ _)) _) cf1), (pw_cell_below (below_alloc (below_drew1 (Below.refl _ _)) _) cf2), (pw_cell_below (below_alloc (below_drew1 (Below.refl _ _)) _) cb0), (pw_cell_below (below_alloc (below_drew1 (Below.refl _ _)) _) k0), (pw_cell_below (below_alloc (below_drew1 (Below.refl _ _)) _) k1), (pw_cell_below (below_alloc (below_drew1 (Below.refl _ _)) _) k2), (pw_cell_below (below_alloc (below_drew1 (Below.refl _ _)) _) k3), (pw_cell_below (below_alloc (below_drew1 (Below.refl _ _)) _) k4), (pw_cell_below (below_alloc (below_drew1 (Below.refl _ _)) _) k5)⟩ (fun hHeld => ?_)
              clear hK K
              refine norm_ (a' := ?_) ?_ ?_
              rotate_left
              · show Act.put _ (some 7) _ = _
                simp only [Act.put, List.setIfInBounds_toArray, List.set_cons_zero, List.set_cons_succ, i64_w, i32_w]
                rfl
              refine one_ (i := 7) (N := some 43) #[true, true, true, true, true, true, true, true, false, false, false, true, false, false] rfl rfl (by kernel_rfl) (by decide) (fun K hK => ?_)
              refine goes_ Try.func7 (by kernel_rfl) rfl #[.agg #[.string s, .string t, .int .i64 20000], .agg #[.int .i64 r.f0, .int .i64 r.f1, .int .i64 r.f2, .string r.f3, .string r.f4, .slice A5 r.f5.length c5]] (by rfl) rfl rfl (by (try simp only [List.map_toArray, List.map_cons, List.map_nil]); first | done | rfl) ?_
              refine (HAP.out _ (by repeat (first | exact Below.refl _ _ | assumption | apply below_drew1 | apply below_alloc | apply pw_below_drewN))).mono ?_
              rintro e w3 ⟨rfl, hb3⟩
              refine ⟨_, rfl, ?_⟩
              have hq : Below wr.heap.size wr w3 := below_step (by repeat (first | exact Below.refl _ _ | assumption | apply below_drew1 | apply below_alloc | apply pw_below_drewN)) hb3
              refine hK.out _ _ ⟨(pw_cell_below hq cf0), (pw_cell_below hq cf1), (pw_cell_below hq cf2), (pw_cell_below hq cb0), (pw_cell_below hq k0), (pw_cell_below hq k1), (pw_cell_below hq k2), (pw_cell_below hq k3), (pw_cell_below hq k4), (pw_cell_below hq k5)⟩ (fun hHeld => ?_)
              clear hK K
              refine norm_ (a' := ?_) ?_ ?_
              rotate_left
              · show Act.put _ (some 43) _ = _
                simp only [Act.put, List.setIfInBounds_toArray, List.set_cons_zero, List.set_cons_succ, i64_w, i32_w]
                rfl
              refine pure_ (i := 8) (N := some 35) (v := ?_) (a' := ?_) #[true, true, true, true, true, true, true, true, true, false, false, true, false, false] rfl rfl (by kernel_rfl) (fun _ _ _ h => h) (Or.inl ⟨by rfl, ?_⟩) ?_ ?_
              rotate_left
              · intro w'
                go_simp
                with_reducible rfl
              rotate_left
              · simp only [Act.put, List.setIfInBounds_toArray, List.set_cons_zero, List.set_cons_succ, i64_w, i32_w]
                rfl
              refine pure_ (i := 9) (N := some 44) (v := ?_) (a' := ?_) #[true, true, true, true, true, true, true, true, true, true, false, true, false, false] rfl rfl (by kernel_rfl) (fun _ _ _ h => h) (Or.inl ⟨by rfl, ?_⟩) ?_ ?_
              rotate_left
              · intro w'
                go_simp
                with_reducible rfl
              rotate_left
              · simp only [Act.put, List.setIfInBounds_toArray, List.set_cons_zero, List.set_cons_succ, i64_w, i32_w]
                rfl
              refine pure_ (i := 10) (N := some 45) (v := ?_) (a' := ?_) #[true, true, true, true, true, true, true, true, true, true, true, true, false, false] rfl rfl (by kernel_rfl) (fun _ _ _ h => h) (Or.inl ⟨by rfl, ?_⟩) ?_ ?_
              rotate_left
              · intro w'
                go_simp
                with_reducible rfl
              rotate_left
              · simp only [Act.put, List.setIfInBounds_toArray, List.set_cons_zero, List.set_cons_succ, i64_w, i32_w]
                rfl
              exact norm_ (by simp only [putAll, Act.put, List.setIfInBounds_toArray, List.set_cons_zero, List.set_cons_succ]) (hCont wr.heap.size _ ⟨hq, Nat.le_refl _, (hb3.block wr.heap.size (Array.getElem?_eq_some_iff.1 (heap_alloc_new wr.drew _)).1).trans (heap_alloc_new wr.drew _)⟩)
          rintro g w4 ⟨hb4, hg4, hn4⟩
          have d0 : w4.cell? ⟨g, 0, none⟩ = some (.string ⟨#[]⟩) := (Lib.cell_of_heap hn4 0).trans rfl
          have d1 : w4.cell? ⟨g, 1, none⟩ = some (.string ⟨#[]⟩) := (Lib.cell_of_heap hn4 1).trans rfl
          have d2 : w4.cell? ⟨g, 2, none⟩ = some (.int .i64 0) := (Lib.cell_of_heap hn4 2).trans rfl
          have e0 := blk_frozen hn4 0
          have e1 := blk_frozen hn4 1
          have e2 := blk_frozen hn4 2
          refine norm_ (a' := ?_) ?_ ?_
          rotate_left
          · simp only [putAll, Act.put, List.setIfInBounds_toArray, List.set_cons_zero, List.set_cons_succ]
            rfl
          refine last_ (i := 12) (N := none) #[true, true, true, true, true, true, true, true, true, true, true, true, true, false] rfl rfl (by kernel_rfl) (by decide) (fun K hK => ?_)
          refine skip_ (w1 := ?_) (by rfl) rfl ?_ ?_
          rotate_left
          · go_simp
            rfl
          refine hK.out _ _ ?_
          clear hK K
          refine pure_ (i := 13) (N := some 8) (v := ?_) (a' := ?_) #[true, true, true, true, true, true, true, true, true, true, true, true, true, true] rfl rfl (by kernel_rfl) (fun _ _ _ h => h) (Or.inl ⟨by rfl, ?_⟩) ?_ ?_
          rotate_left
          · intro w'
            go_simp
            with_reducible rfl
          rotate_left
          · simp only [Act.put, List.setIfInBounds_toArray, List.set_cons_zero, List.set_cons_succ, i64_w, i32_w]
            rfl
          refine done_ (by kernel_rfl) ?_
          obtain ⟨hb5, hx5⟩ := file_put hb4 hg4 hn4 q1 q2 q3
          obtain ⟨w5, hw5⟩ : ∃ x, ((w4.setCell ⟨g, 0, none⟩ (.string q1)).setCell ⟨g, 1, none⟩ (.string q2)).setCell ⟨g, 2, none⟩ (.int .i64 q3) = x := ⟨_, rfl⟩
          rw [hw5] at hb5 hx5 ⊢
          have hJ5 := HJ.out.below hb5
          have HJ5 := Lib.hid hJ5
          have HX5 := Lib.hid hx5
          have HB5 := Lib.hid hb5
          clear hw5 hb4 hg4 hn4 d0 d1 d2 e0 e1 e2 hJ5 hx5 HAP cf0 cf1 cf2 cb0 cb6
          by_cases gok : okR r = true ∧ ¬ ((frame (spellR r)).size : Int) > 20000 - s.size - t.size
          · have hmay : mayF s t 20000 = true := decide_eq_true (by have := HP.out.hz; omega)
            have hqq := HQ.out
            rw [if_pos ⟨hmay, gok.1⟩, if_neg gok.2] at hqq
            simp only [Prod.mk.injEq] at hqq
            obtain ⟨rfl, rfl, rfl, rfl⟩ := hqq
            have x0 : w5.cell? ⟨g, 0, none⟩ = some (.string s) := (Lib.cell_of_heap HX5.out 0).trans rfl
            have x1 : w5.cell? ⟨g, 1, none⟩ = some (.string (t ++ frame (spellR r))) := (Lib.cell_of_heap HX5.out 1).trans rfl
            have x2 : w5.cell? ⟨g, 2, none⟩ = some (.int .i64 20000) := (Lib.cell_of_heap HX5.out 2).trans rfl
            have y0 : w5.cell? ⟨gf, 0, none⟩ = some (.string s) := (Lib.cell_of_heap HJ5.out.F 0).trans rfl
            have y1 : w5.cell? ⟨gf, 1, none⟩ = some (.string t) := (Lib.cell_of_heap HJ5.out.F 1).trans rfl
            have y2 : w5.cell? ⟨gf, 2, none⟩ = some (.int .i64 20000) := (Lib.cell_of_heap HJ5.out.F 2).trans rfl
            have z0 := blk_frozen HJ5.out.F 0
            have z1 := blk_frozen HJ5.out.F 1
            have z2 := blk_frozen HJ5.out.F 2
            have GOK := Lib.hid gok
            clear gok hmay HX5
            go_wp2_with fail
            refine (HN.out _ _).mono ?_
            rintro e w' ⟨rfl, hd⟩
            obtain ⟨nn, rfl⟩ := hd.out
            clear hd
            go_upto_region 12 with fail
            have hJ6 := (HJ5.out.below (pw_below_drewN (Below.refl _ _) nn)).put s (t ++ frame (spellR r))
            obtain ⟨w6, hw6⟩ : ∃ x, (((w5.drewN nn).setCell ⟨gf, 0, none⟩ (.string s)).setCell ⟨gf, 1, none⟩ (.string (t ++ frame (spellR r)))).setCell ⟨gf, 2, none⟩ (.int .i64 20000) = x := ⟨_, rfl⟩
            rw [hw6] at hJ6 ⊢
            clear x0 x1 x2 y0 y1 y2 z0 z1 z2 hw6 HJ5 HB5 k0 k1 k2 k3 k4 k5
            have hjx := hJ6.X
            rw [← HPC.out] at hjx
            have cb0 : w6.cell? ⟨w.heap.size, 0, none⟩ = some (.slice (some ad) l0.length c0) := (Lib.cell_of_heap hjx 0).trans rfl
            clear hjx
            have k0 := pw_cell_below hJ6.B HU.out.1
            have k1 := pw_cell_below hJ6.B HU.out.2.1
            have k2 := pw_cell_below hJ6.B HU.out.2.2.1
            have k3 := pw_cell_below hJ6.B HU.out.2.2.2.1
            have k4 := pw_cell_below hJ6.B HU.out.2.2.2.2.1
            have k5 := pw_cell_below hJ6.B HU.out.2.2.2.2.2
            have hFK := k42_mkF w6 (fun k => k < w.heap.size) r HL5.out (Kd.F_below HF5.out hJ6.B)
            obtain ⟨al, hal⟩ : ∃ a, all ++ [r] = a := ⟨_, rfl⟩
            obtain ⟨t1, ht1⟩ : ∃ x, t ++ frame (spellR r) = x := ⟨_, rfl⟩
            have hP1 : Jp s t1 al m := by
              have hp := HP.out
              have hla := HLA.out
              have hy := HY.out
              have hmd : al.take m = all.take m ∧ al.drop m = all.drop m ++ [r] := by
                rw [← hal]
                exact ⟨List.take_append_of_le_length hp.hm, List.drop_append_of_le_length hp.hm⟩
              refine ⟨by rw [hmd.1]; exact hp.hs, by rw [hmd.2, catR_snoc, ← hp.ht, ← ht1], by rw [← hal, List.length_append]; have := hp.hm; omega, ?_, ?_, ?_⟩
              · intro q hq
                rw [← hal, List.mem_append, List.mem_singleton] at hq
                rcases hq with hq | hq
                · exact hp.hok q hq
                · rw [hq]; exact GOK.out.1
              · rw [← ht1, ByteArray.size_append]; have := GOK.out.2; omega
              · rw [← hal, List.length_append, List.length_singleton]; omega
            have hla1 : al.length ≤ (y + 1).toNat := by rw [← hal, List.length_append, List.length_singleton]; have := HLA.out; have := HY.out; omega
            rw [ht1] at hJ6
            have HJ6 := Lib.hid hJ6
            have HFK := Lib.hid hFK
            have HAL := Lib.hid hal
            have HP1 := Lib.hid hP1
            have HLA1 := Lib.hid hla1
            have hall : all.length ≤ 8 := HP.out.hl
            have HALL := Lib.hid hall
            clear hJ6 hFK hal hP1 hla1 HP HLA hall ht1
            by_cases gp : Int.tmod y 2 = 0
            · have p1 : (Int.tmod y 2 == 0) = true := by simp [gp]
              have p2 : (y % 2 == 0) = true := by have := HY.out.1; rw [Int.tmod_eq_emod_of_nonneg this] at gp; simp [gp]
              have hsy := fun W : World => file_Sync.calls s t1 20000 (s ++ t1) ⟨#[]⟩ 20000 0 W (by rw [Sync_tot s t1 20000 (by have := HP1.out.hz; omega) (by have := HP1.out.hz; omega), mayF_of (by have := HP1.out.hz; omega)]; rfl)
              have HSY := Lib.hid hsy
              clear hsy gp
              go_wp2_with (at_builtin; refine Kd.N_append k42 (w0 := w) w.heap.size rfl (.tmp 50) (.tmp 57) 22 42 (.agg #[(.int .i64 0), (.int .i64 0), (.int .i64 0), (.string ⟨#[]⟩), (.string ⟨#[]⟩), (.slice none 0 0)]) 80 rfl Try.underlying22 info42 rfl (by decide) (by omega) u5 all r [.int .i64 r.f0, .int .i64 r.f1, .int .i64 r.f2, .string r.f3, .string r.f4, .slice A5 r.f5.length c5] (fun k => k ≠ w.heap.size ∧ k ≠ gf) (fun k => k < w.heap.size) rfl rfl HFK.out (jk_okp HJ6.out) (jk_fresh HJ6.out) HJ6.out.R HJ6.out.B HJ6.out.B.size (by have := HALL.out; omega) ?_; intro v1 w7 ho hb7 hg7 _; rw [HAL.out] at ho; have hJ7 := HJ6.out.grown ho hb7 hg7; have a0 : w7.cell? ⟨gf, 0, none⟩ = some (.string s) := (Lib.cell_of_heap hJ7.F 0).trans rfl; have a1 : w7.cell? ⟨gf, 1, none⟩ = some (.string t1) := (Lib.cell_of_heap hJ7.F 1).trans rfl; have a2 : w7.cell? ⟨gf, 2, none⟩ = some (.int .i64 20000) := (Lib.cell_of_heap hJ7.F 2).trans rfl; have HJ7 := Lib.hid hJ7; clear ho hb7 hg7 hJ7)
              clear cb0 k0 k1 k2 k3 k4 k5
              refine (HSY.out _).mono ?_
              rintro e w8 ⟨rfl, hb8⟩
              clear a0 a1 a2
              have hJ8 := HJ7.out.below hb8
              have b0 : ∀ o, (w8.alloc o).cell? ⟨gf, 0, none⟩ = some (.string s) := fun o => (Lib.cell_of_heap (hJ8.below (below_alloc (Below.refl _ _) o)).F 0).trans rfl
              have b1 : ∀ o, (w8.alloc o).cell? ⟨gf, 1, none⟩ = some (.string t1) := fun o => (Lib.cell_of_heap (hJ8.below (below_alloc (Below.refl _ _) o)).F 1).trans rfl
              have b2 : ∀ o, (w8.alloc o).cell? ⟨gf, 2, none⟩ = some (.int .i64 20000) := fun o => (Lib.cell_of_heap (hJ8.below (below_alloc (Below.refl _ _) o)).F 2).trans rfl
              have z0 : ∀ o, (w8.alloc o).frozen? ⟨gf, 0, none⟩ = false := fun o => blk_frozen (hJ8.below (below_alloc (Below.refl _ _) o)).F 0
              have z1 : ∀ o, (w8.alloc o).frozen? ⟨gf, 1, none⟩ = false := fun o => blk_frozen (hJ8.below (below_alloc (Below.refl _ _) o)).F 1
              have z2 : ∀ o, (w8.alloc o).frozen? ⟨gf, 2, none⟩ = false := fun o => blk_frozen (hJ8.below (below_alloc (Below.refl _ _) o)).F 2
              have HJ8 := Lib.hid hJ8
              clear hJ8 hb8 HJ7 HSY
              go_wp2_with fail
              refine (HN.out _ _).mono ?_
              rintro e w' ⟨rfl, hd⟩
              obtain ⟨n8, rfl⟩ := hd.out
              clear hd
              go_upto_region 18 with fail
              have hJ9 := ((HJ8.out.below (below_alloc (Below.refl _ _) (.cells #[.string (s ++ t1), .string ⟨#[]⟩, .int .i64 20000] 30))).below (pw_below_drewN (Below.refl _ _) n8)).put (s ++ t1) ⟨#[]⟩
              obtain ⟨w9, hw9⟩ : ∃ x, ((((w8.alloc (.cells #[.string (s ++ t1), .string ⟨#[]⟩, .int .i64 20000] 30)).drewN n8).setCell ⟨gf, 0, none⟩ (.string (s ++ t1))).setCell ⟨gf, 1, none⟩ (.string ⟨#[]⟩)).setCell ⟨gf, 2, none⟩ (.int .i64 20000) = x := ⟨_, rfl⟩
              rw [hw9] at hJ9 ⊢
              obtain ⟨s2, hs2⟩ : ∃ x, s ++ t1 = x := ⟨_, rfl⟩
              obtain ⟨t2, ht2⟩ : ∃ x : ByteArray, ⟨#[]⟩ = x := ⟨_, rfl⟩
              have hP2 : Jp s2 t2 al al.length := by
                have hp := HP1.out
                refine ⟨?_, ?_, by omega, hp.hok, ?_, hp.hl⟩
                · rw [← hs2, hp.hs, hp.ht, ← catR_append, List.take_append_drop, List.take_of_length_le (by omega)]
                · rw [← ht2, List.drop_of_length_le (by omega)]; rfl
                · rw [← hs2, ← ht2, ByteArray.size_append]; have := hp.hz; have h0 : (⟨#[]⟩ : ByteArray).size = 0 := rfl; omega
              rw [hs2, ht2] at hJ9
              have HJ9 := Lib.hid hJ9
              have HP2 := Lib.hid hP2
              clear hJ9 hP2 hw9 HJ8 HP1 b0 b1 b2 z0 z1 z2
              obtain ⟨Av, cv, hv1⟩ := Kd.N_slice HJ9.out.R
              subst hv1
              go_wp2
              clear hs2 ht2
              go_loopw [11] (fun k wq => ∃ z : Int, 0 ≤ z ∧ z ≤ 5 ∧ k = .int .i64 z ∧ Hid (Jk w w.heap.size gf pcs s2 t2 (.slice Av al.length cv) al wq)) (fun k _ => 5 - (intOf k).toNat)
              case atStart => exact ⟨0, by omega, by omega, rfl, HJ9⟩
              case round =>
                clear HJ9
                obtain ⟨z, hz0, hz1, rfl, HJ⟩ := hrel
                by_cases g3 : z < 5
                · obtain ⟨s, hse⟩ : ∃ x, s2 = x := ⟨_, rfl⟩
                  obtain ⟨t, hte⟩ : ∃ x, t2 = x := ⟨_, rfl⟩
                  subst hse
                  subst hte
                  have hjx := HJ.out.X
                  rw [← HPC.out] at hjx
                  have cb6 : wr.cell? ⟨w.heap.size, 6, none⟩ = some (.int .i64 pn) := (Lib.cell_of_heap hjx 6).trans rfl
                  have cf0 : wr.cell? ⟨gf, 0, none⟩ = some (.string s2) := (Lib.cell_of_heap HJ.out.F 0).trans rfl
                  have cf1 : wr.cell? ⟨gf, 1, none⟩ = some (.string t2) := (Lib.cell_of_heap HJ.out.F 1).trans rfl
                  have cf2 : wr.cell? ⟨gf, 2, none⟩ = some (.int .i64 20000) := (Lib.cell_of_heap HJ.out.F 2).trans rfl
                  obtain ⟨x90, hx90⟩ : ∃ x, IntKind.i64.wrap (z * 13 + pn) = x := ⟨_, rfl⟩
                  have kz13 : IntKind.i64.wrap (z * 13) = z * 13 := IntWalk.i64_in _ (by omega)
                  obtain ⟨m9, hm9⟩ : ∃ m9, amanuensislaw0_Within.f x90 90 = some m9 := ⟨_, by unfold amanuensislaw0_Within.f; rw [if_neg (by decide)]⟩
                  have hwi := fun W : World => amanuensislaw0_Within.calls x90 90 m9 W hm9
                  have hPz := HP2.out.hz
                  obtain ⟨Y, hY⟩ : ∃ Y, s2 ++ t2.extract 0 (min (max m9 0) (t2.size : Int)).toNat = Y := ⟨_, rfl⟩
                  have hcr := fun W : World => file_Crash.calls s2 t2 20000 m9 Y ⟨#[]⟩ 20000 0 W (by rw [Crash_tot s2 t2 20000 m9 (by omega) (by omega), mayF_of (by omega), hY]; rfl)
                  obtain ⟨j, hj1, hj2, hj3, hj4, hj5⟩ := keeps_crash al al.length HP2.out.hm HP2.out.hok (min (max m9 0) (t2.size : Int)).toNat
                  rw [← HP2.out.hs, ← HP2.out.ht, hY] at hj3 hj4
                  have hYz : Y.size ≤ 20000 := by rw [← hY, ByteArray.size_append, ByteArray.size_extract]; omega
                  have h00 : (⟨#[]⟩ : ByteArray).size = 0 := rfl
                  obtain ⟨xj, hxj⟩ : ∃ x, al.take j = x := ⟨_, rfl⟩
                  obtain ⟨X, hX⟩ : ∃ x, catR (al.take j) = x := ⟨_, rfl⟩
                  have hre1 := fun W : World => journal_Recover.calls 30000 Y ⟨#[]⟩ 20000 xj X ⟨#[]⟩ 20000 0 W (by rw [Recover_tot Y 20000 (by omega) (decide_eq_true (by omega)) 30000 (by omega), hj3, ← hX, hj4, hxj])
                  have hXz : X.size ≤ Y.size := by rw [← hX, ← hj4, ByteArray.size_extract]; omega
                  have hre2 := fun W : World => journal_Recover.calls 30000 X ⟨#[]⟩ 20000 xj X ⟨#[]⟩ 20000 0 W (by rw [Recover_tot X 20000 (by omega) (decide_eq_true (by omega)) 30000 (by omega), ← hX, hj5, ByteArray.extract_zero_size, hxj])
                  have hxl : xj.length = j := by rw [← hxj, List.length_take]; omega
                  have hxt : al.take xj.length = xj := by rw [hxl]; exact hxj
                  have hxo : ∀ x, x ∈ xj → x.f5.length ≤ 5 := fun x hx => (okR_small x (HP2.out.hok x (by rw [← hxj] at hx; exact List.mem_of_mem_take hx))).1
                  have hal8 := HP2.out.hl
                  obtain ⟨be, hbe, hbi⟩ := EqRecords_any xj xj 5 (by omega) hxo (by omega) 100 (by omega)
                  have hbt : be = true := hbi.2 rfl
                  subst hbt
                  have g41 : decide ((xj.length : Int) < (al.length : Int)) = false := decide_eq_false (by omega)
                  have g42 : decide ((al.length : Int) < (xj.length : Int)) = false := decide_eq_false (by omega)
                  have gn41 : decide (xj.length < al.length) = false := decide_eq_false (by omega)
                  have gn42 : decide (al.length < xj.length) = false := decide_eq_false (by omega)
                  have HWI := Lib.hid hwi
                  have HCR := Lib.hid hcr
                  have HRE1 := Lib.hid hre1
                  have HRE2 := Lib.hid hre2
                  have HBE := Lib.hid hbe
                  have HXL := Lib.hid (And.intro hxl (And.intro hj2 hxt))
                  have HZ := Lib.hid (And.intro hz0 g3)
                  clear hjx hm9 hwi hPz hY hcr hj1 hj2 hj3 hj4 hj5 hYz h00 hxj hX hre1 hre2 hXz hxl hxt hxo hal8 hbe hbi hz0 hz1
                  go_wp2
                  refine start_ (n := 15) (S := fun w' => w'.cell? ⟨gf, 0, none⟩ = some (.string s2) ∧ w'.cell? ⟨gf, 1, none⟩ = some (.string t2) ∧ w'.cell? ⟨gf, 2, none⟩ = some (.int .i64 20000) ∧ w'.cell? ⟨w.heap.size, 6, none⟩ = some (.int .i64 pn)) (ds := [13]) #[false, false, false, false, false, false, false, false, false, false, false, false, false, false, false] (by kernel_rfl) rfl rfl ⟨cf0, cf1, cf2, cb6⟩ (fun hHeld => ?_)
                  refine pure_ (i := 1) (N := some 79) (v := ?_) (a' := ?_) #[false, true, false, false, false, false, false, false, false, false, false, false, false, false, false] rfl rfl (by kernel_rfl) (fun _ _ _ h => h) (Or.inl ⟨by rfl, ?_⟩) ?_ ?_
                  rotate_left
                  · intro w'
                    go_simp
                    with_reducible rfl
                  rotate_left
                  · simp only [Act.put, List.setIfInBounds_toArray, List.set_cons_zero, List.set_cons_succ, i64_w, i32_w]
                    rfl
                  refine pure_ (i := 2) (N := some 80) (v := ?_) (a' := ?_) #[false, true, true, false, false, false, false, false, false, false, false, false, false, false, false] rfl rfl (by kernel_rfl) (fun _ _ _ h => h) (Or.inl ⟨by rfl, ?_⟩) ?_ ?_
                  rotate_left
                  · intro w'
                    go_simp
                    with_reducible rfl
                  rotate_left
                  · simp only [Act.put, List.setIfInBounds_toArray, List.set_cons_zero, List.set_cons_succ, i64_w, i32_w]
                    rfl
                  refine pure_ (i := 3) (N := some 81) (v := ?_) (a' := ?_) #[false, true, true, true, false, false, false, false, false, false, false, false, false, false, false] rfl rfl (by kernel_rfl) (fun _ _ _ h => h) (Or.inl ⟨by rfl, ?_⟩) ?_ ?_
                  rotate_left
                  · intro w'
                    go_simp
                    with_reducible rfl
                  rotate_left
                  · simp only [Act.put, List.setIfInBounds_toArray, List.set_cons_zero, List.set_cons_succ, i64_w, i32_w]
                    rfl
                  refine pure_ (i := 4) (N := some 82) (v := ?_) (a' := ?_) #[false, true, true, true, true, false, false, false, false, false, false, false, false, false, false] rfl rfl (by kernel_rfl) (fun _ _ _ h => h) (Or.inl ⟨by rfl, ?_⟩) ?_ ?_
                  rotate_left
                  · intro w'
                    go_simp
                    with_reducible rfl
                  rotate_left
                  · simp only [Act.put, List.setIfInBounds_toArray, List.set_cons_zero, List.set_cons_succ, i64_w, i32_w]
                    rfl
                  refine take_ (i := 0) (N := some 78) (v := ?_) (a' := ?_) #[true, true, true, true, true, false, false, false, false, false, false, false, false, false, false] rfl rfl (by kernel_rfl) (fun _ _ _ h => h) (Or.inl ⟨by rfl, ?_⟩) hHeld ?_ ?_
                  rotate_left
                  · rintro w' ⟨s0, s1, s2, s3⟩
                    go_simp
                    with_reducible rfl
                  rotate_left
                  · simp only [Act.put, List.setIfInBounds_toArray, List.set_cons_zero, List.set_cons_succ, i64_w, i32_w]
                    rfl
                  refine take_ (i := 5) (N := some 83) (v := ?_) (a' := ?_) #[true, true, true, true, true, true, false, false, false, false, false, false, false, false, false] rfl rfl (by kernel_rfl) (fun _ _ _ h => h) (Or.inl ⟨by rfl, ?_⟩) hHeld ?_ ?_
                  rotate_left
                  · rintro w' ⟨s0, s1, s2, s3⟩
                    go_simp
                    with_reducible rfl
                  rotate_left
                  · simp only [Act.put, List.setIfInBounds_toArray, List.set_cons_zero, List.set_cons_succ, i64_w, i32_w]
                    rfl
                  refine pure_ (i := 6) (N := some 84) (v := ?_) (a' := ?_) #[true, true, true, true, true, true, true, false, false, false, false, false, false, false, false] rfl rfl (by kernel_rfl) (fun _ _ _ h => h) (Or.inl ⟨by rfl, ?_⟩) ?_ ?_
                  rotate_left
                  · intro w'
                    go_simp
                    with_reducible rfl
                  rotate_left
                  · simp only [Act.put, List.setIfInBounds_toArray, List.set_cons_zero, List.set_cons_succ, i64_w, i32_w]
                    rfl
                  refine join_ (σ := Nat) 2 #[true, true, true, true, true, true, true, true, true, true, true, true, true, false, false] (fun g => [(85, .int .i64 m9), (86, .tuple #[.agg #[.string Y, .string ⟨#[]⟩, .int .i64 20000], .int .i64 0]), (77, .tuple #[.agg #[.string Y, .string ⟨#[]⟩, .int .i64 20000], .int .i64 0]), (87, .agg #[.string Y, .string ⟨#[]⟩, .int .i64 20000]), (88, .int .i64 0), (12, .pointer (some ⟨g, 0, none⟩))]) (fun g w' => Below wr.heap.size wr w' ∧ wr.heap.size ≤ g ∧ w'.heap[g]? = some (.cells #[.string ⟨#[]⟩, .string ⟨#[]⟩, .int .i64 0] 30 (0, 0))) ?_ ?_
                  rotate_left
                  · intro hCont
                    refine two_ (i := 7) (j := 12) (Ni := some 85) (Nj := some 12) #[true, true, true, true, true, true, true, true, false, false, false, false, false, false, false] #[true, true, true, true, true, true, true, false, false, false, false, false, true, false, false] rfl rfl rfl rfl (by kernel_rfl) (by decide) (by decide) (fun K hK => ?_) (fun K hK => ?_)
                    · skip
                      refine goes_ Try.func11 (by kernel_rfl) rfl #[.int .i64 x90, .int .i64 90] (by rfl) rfl rfl (by (try simp only [List.map_toArray, List.map_cons, List.map_nil]); first | done | rfl) ?_
                      refine (HWI.out _).mono ?_
                      rintro e w3 ⟨rfl, hd3⟩
                      obtain ⟨n3, rfl⟩ := hd3.out
                      refine ⟨_, rfl, ?_⟩
                      have hqd := pw_below_drewN (below_drew1 (Below.refl wr.heap.size wr)) n3
                      refine hK.out _ _ ⟨(pw_cell_below hqd cf0), (pw_cell_below hqd cf1), (pw_cell_below hqd cf2), (pw_cell_below hqd cb6)⟩ (fun hHeld => ?_)
                      clear hK K
                      refine norm_ (a' := ?_) ?_ ?_
                      rotate_left
                      · show Act.put _ (some 85) _ = _
                        simp only [Act.put, List.setIfInBounds_toArray, List.set_cons_zero, List.set_cons_succ, i64_w, i32_w]
                        rfl
                      refine two_ (i := 8) (j := 12) (Ni := some 86) (Nj := some 12) #[true, true, true, true, true, true, true, true, true, false, false, false, false, false, false] #[true, true, true, true, true, true, true, true, false, false, false, false, true, false, false] rfl rfl rfl rfl (by kernel_rfl) (by decide) (by decide) (fun K hK => ?_) (fun K hK => ?_)
                      · skip
                        refine goes_ Try.func10 (by kernel_rfl) rfl #[.agg #[.string s2, .string t2, .int .i64 20000], .int .i64 m9] (by rfl) rfl rfl (by (try simp only [List.map_toArray, List.map_cons, List.map_nil]); first | done | rfl) ?_
                        refine (HCR.out _).mono ?_
                        rintro e w3 ⟨rfl, hb3⟩
                        refine ⟨_, rfl, ?_⟩
                        have hq : Below wr.heap.size wr w3 := below_step (by repeat (first | exact Below.refl _ _ | apply below_alloc | apply below_drew1 | apply pw_below_drewN)) hb3
                        refine hK.out _ _ ⟨(pw_cell_below hq cf0), (pw_cell_below hq cf1), (pw_cell_below hq cf2), (pw_cell_below hq cb6)⟩ (fun hHeld => ?_)
                        clear hK K
                        refine norm_ (a' := ?_) ?_ ?_
                        rotate_left
                        · show Act.put _ (some 86) _ = _
                          simp only [Act.put, List.setIfInBounds_toArray, List.set_cons_zero, List.set_cons_succ, i64_w, i32_w]
                          rfl
                        refine pure_ (i := 9) (N := some 77) (v := ?_) (a' := ?_) #[true, true, true, true, true, true, true, true, true, true, false, false, false, false, false] rfl rfl (by kernel_rfl) (fun _ _ _ h => h) (Or.inl ⟨by rfl, ?_⟩) ?_ ?_
                        rotate_left
                        · intro w'
                          go_simp
                          with_reducible rfl
                        rotate_left
                        · simp only [Act.put, List.setIfInBounds_toArray, List.set_cons_zero, List.set_cons_succ, i64_w, i32_w]
                          rfl
                        refine pure_ (i := 10) (N := some 87) (v := ?_) (a' := ?_) #[true, true, true, true, true, true, true, true, true, true, true, false, false, false, false] rfl rfl (by kernel_rfl) (fun _ _ _ h => h) (Or.inl ⟨by rfl, ?_⟩) ?_ ?_
                        rotate_left
                        · intro w'
                          go_simp
                          with_reducible rfl
                        rotate_left
                        · simp only [Act.put, List.setIfInBounds_toArray, List.set_cons_zero, List.set_cons_succ, i64_w, i32_w]
                          rfl
                        refine pure_ (i := 11) (N := some 88) (v := ?_) (a' := ?_) #[true, true, true, true, true, true, true, true, true, true, true, true, false, false, false] rfl rfl (by kernel_rfl) (fun _ _ _ h => h) (Or.inl ⟨by rfl, ?_⟩) ?_ ?_
                        rotate_left
                        · intro w'
                          go_simp
                          with_reducible rfl
                        rotate_left
                        · simp only [Act.put, List.setIfInBounds_toArray, List.set_cons_zero, List.set_cons_succ, i64_w, i32_w]
                          rfl
                        refine one_ (i := 12) (N := some 12) #[true, true, true, true, true, true, true, true, true, true, true, true, true, false, false] rfl rfl (by kernel_rfl) (by decide) (fun K hK => ?_)
                        refine value_ (w1 := ?_) (v := ?_) (by rfl) rfl ?_ ?_
                        rotate_left 2
                        · go_simp
                          constructor
                          · rfl
                          · rfl
                        have hqa := below_alloc hq (.cells #[.string ⟨#[]⟩, .string ⟨#[]⟩, .int .i64 0] 30)
                        refine hK.out _ _ ⟨(pw_cell_below hqa cf0), (pw_cell_below hqa cf1), (pw_cell_below hqa cf2), (pw_cell_below hqa cb6)⟩ (fun hHeld => ?_)
                        clear hK K
                        refine norm_ (a' := ?_) ?_ ?_
                        rotate_left
                        · show Act.put _ (some 12) _ = _
                          simp only [Act.put, List.setIfInBounds_toArray, List.set_cons_zero, List.set_cons_succ, i64_w, i32_w]
                          rfl
                        exact norm_ (by simp only [putAll, Act.put, List.setIfInBounds_toArray, List.set_cons_zero, List.set_cons_succ]) (hCont w3.heap.size _ ⟨hqa, hq.size, heap_alloc_new w3 _⟩)
                      · skip
                        refine value_ (w1 := ?_) (v := ?_) (by rfl) rfl ?_ ?_
                        rotate_left 2
                        · go_simp
                          constructor
                          · rfl
                          · rfl
                        have hqa := below_alloc hqd (.cells #[.string ⟨#[]⟩, .string ⟨#[]⟩, .int .i64 0] 30)
                        refine hK.out _ _ ⟨(pw_cell_below hqa cf0), (pw_cell_below hqa cf1), (pw_cell_below hqa cf2), (pw_cell_below hqa cb6)⟩ (fun hHeld => ?_)
                        clear hK K
                        refine norm_ (a' := ?_) ?_ ?_
                        rotate_left
                        · show Act.put _ (some 12) _ = _
                          simp only [Act.put, List.setIfInBounds_toArray, List.set_cons_zero, List.set_cons_succ, i64_w, i32_w]
                          rfl
                        refine one_ (i := 8) (N := some 86) #[true, true, true, true, true, true, true, true, true, false, false, false, true, false, false] rfl rfl (by kernel_rfl) (by decide) (fun K hK => ?_)
                        refine goes_ Try.func10 (by kernel_rfl) rfl #[.agg #[.string s2, .string t2, .int .i64 20000], .int .i64 m9] (by rfl) rfl rfl (by (try simp only [List.map_toArray, List.map_cons, List.map_nil]); first | done | rfl) ?_
                        refine (HCR.out _).mono ?_
                        rintro e w3 ⟨rfl, hb3⟩
                        refine ⟨_, rfl, ?_⟩
                        have hq : Below wr.heap.size wr w3 := below_step (by repeat (first | exact Below.refl _ _ | apply below_alloc | apply below_drew1 | apply pw_below_drewN)) hb3
                        refine hK.out _ _ ⟨(pw_cell_below hq cf0), (pw_cell_below hq cf1), (pw_cell_below hq cf2), (pw_cell_below hq cb6)⟩ (fun hHeld => ?_)
                        clear hK K
                        refine norm_ (a' := ?_) ?_ ?_
                        rotate_left
                        · show Act.put _ (some 86) _ = _
                          simp only [Act.put, List.setIfInBounds_toArray, List.set_cons_zero, List.set_cons_succ, i64_w, i32_w]
                          rfl
                        refine pure_ (i := 9) (N := some 77) (v := ?_) (a' := ?_) #[true, true, true, true, true, true, true, true, true, true, false, false, true, false, false] rfl rfl (by kernel_rfl) (fun _ _ _ h => h) (Or.inl ⟨by rfl, ?_⟩) ?_ ?_
                        rotate_left
                        · intro w'
                          go_simp
                          with_reducible rfl
                        rotate_left
                        · simp only [Act.put, List.setIfInBounds_toArray, List.set_cons_zero, List.set_cons_succ, i64_w, i32_w]
                          rfl
                        refine pure_ (i := 10) (N := some 87) (v := ?_) (a' := ?_) #[true, true, true, true, true, true, true, true, true, true, true, false, true, false, false] rfl rfl (by kernel_rfl) (fun _ _ _ h => h) (Or.inl ⟨by rfl, ?_⟩) ?_ ?_
                        rotate_left
                        · intro w'
                          go_simp
                          with_reducible rfl
                        rotate_left
                        · simp only [Act.put, List.setIfInBounds_toArray, List.set_cons_zero, List.set_cons_succ, i64_w, i32_w]
                          rfl
                        refine pure_ (i := 11) (N := some 88) (v := ?_) (a' := ?_) #[true, true, true, true, true, true, true, true, true, true, true, true, true, false, false] rfl rfl (by kernel_rfl) (fun _ _ _ h => h) (Or.inl ⟨by rfl, ?_⟩) ?_ ?_
                        rotate_left
                        · intro w'
                          go_simp
                          with_reducible rfl
                        rotate_left
                        · simp only [Act.put, List.setIfInBounds_toArray, List.set_cons_zero, List.set_cons_succ, i64_w, i32_w]
                          rfl
                        exact norm_ (by simp only [putAll, Act.put, List.setIfInBounds_toArray, List.set_cons_zero, List.set_cons_succ]) (hCont wr.heap.size _ ⟨hq, Nat.le_refl _, (hb3.block wr.heap.size (Array.getElem?_eq_some_iff.1 (heap_alloc_new wr (.cells #[.string ⟨#[]⟩, .string ⟨#[]⟩, .int .i64 0] 30))).1).trans (heap_alloc_new wr (.cells #[.string ⟨#[]⟩, .string ⟨#[]⟩, .int .i64 0] 30))⟩)
                    · skip
                      refine value_ (w1 := ?_) (v := ?_) (by rfl) rfl ?_ ?_
                      rotate_left 2
                      · go_simp
                        constructor
                        · rfl
                        · rfl
                      have hqa := below_alloc (below_drew1 (Below.refl wr.heap.size wr)) (.cells #[.string ⟨#[]⟩, .string ⟨#[]⟩, .int .i64 0] 30)
                      refine hK.out _ _ ⟨(pw_cell_below hqa cf0), (pw_cell_below hqa cf1), (pw_cell_below hqa cf2), (pw_cell_below hqa cb6)⟩ (fun hHeld => ?_)
                      clear hK K
                      refine norm_ (a' := ?_) ?_ ?_
                      rotate_left
                      · show Act.put _ (some 12) _ = _
                        simp only [Act.put, List.setIfInBounds_toArray, List.set_cons_zero, List.set_cons_succ, i64_w, i32_w]
                        rfl
                      refine one_ (i := 7) (N := some 85) #[true, true, true, true, true, true, true, true, false, false, false, false, true, false, false] rfl rfl (by kernel_rfl) (by decide) (fun K hK => ?_)
                      refine goes_ Try.func11 (by kernel_rfl) rfl #[.int .i64 x90, .int .i64 90] (by rfl) rfl rfl (by (try simp only [List.map_toArray, List.map_cons, List.map_nil]); first | done | rfl) ?_
                      refine (HWI.out _).mono ?_
                      rintro e w3 ⟨rfl, hd3⟩
                      obtain ⟨n3, rfl⟩ := hd3.out
                      refine ⟨_, rfl, ?_⟩
                      have hqd := pw_below_drewN hqa n3
                      refine hK.out _ _ ⟨(pw_cell_below hqd cf0), (pw_cell_below hqd cf1), (pw_cell_below hqd cf2), (pw_cell_below hqd cb6)⟩ (fun hHeld => ?_)
                      clear hK K
                      refine norm_ (a' := ?_) ?_ ?_
                      rotate_left
                      · show Act.put _ (some 85) _ = _
                        simp only [Act.put, List.setIfInBounds_toArray, List.set_cons_zero, List.set_cons_succ, i64_w, i32_w]
                        rfl
                      refine one_ (i := 8) (N := some 86) #[true, true, true, true, true, true, true, true, true, false, false, false, true, false, false] rfl rfl (by kernel_rfl) (by decide) (fun K hK => ?_)
                      refine goes_ Try.func10 (by kernel_rfl) rfl #[.agg #[.string s2, .string t2, .int .i64 20000], .int .i64 m9] (by rfl) rfl rfl (by (try simp only [List.map_toArray, List.map_cons, List.map_nil]); first | done | rfl) ?_
                      refine (HCR.out _).mono ?_
                      rintro e w3 ⟨rfl, hb3⟩
                      refine ⟨_, rfl, ?_⟩
                      have hq : Below wr.heap.size wr w3 := below_step (by repeat (first | exact Below.refl _ _ | apply below_alloc | apply below_drew1 | apply pw_below_drewN)) hb3
                      refine hK.out _ _ ⟨(pw_cell_below hq cf0), (pw_cell_below hq cf1), (pw_cell_below hq cf2), (pw_cell_below hq cb6)⟩ (fun hHeld => ?_)
                      clear hK K
                      refine norm_ (a' := ?_) ?_ ?_
                      rotate_left
                      · show Act.put _ (some 86) _ = _
                        simp only [Act.put, List.setIfInBounds_toArray, List.set_cons_zero, List.set_cons_succ, i64_w, i32_w]
                        rfl
                      refine pure_ (i := 9) (N := some 77) (v := ?_) (a' := ?_) #[true, true, true, true, true, true, true, true, true, true, false, false, true, false, false] rfl rfl (by kernel_rfl) (fun _ _ _ h => h) (Or.inl ⟨by rfl, ?_⟩) ?_ ?_
                      rotate_left
                      · intro w'
                        go_simp
                        with_reducible rfl
                      rotate_left
                      · simp only [Act.put, List.setIfInBounds_toArray, List.set_cons_zero, List.set_cons_succ, i64_w, i32_w]
                        rfl
                      refine pure_ (i := 10) (N := some 87) (v := ?_) (a' := ?_) #[true, true, true, true, true, true, true, true, true, true, true, false, true, false, false] rfl rfl (by kernel_rfl) (fun _ _ _ h => h) (Or.inl ⟨by rfl, ?_⟩) ?_ ?_
                      rotate_left
                      · intro w'
                        go_simp
                        with_reducible rfl
                      rotate_left
                      · simp only [Act.put, List.setIfInBounds_toArray, List.set_cons_zero, List.set_cons_succ, i64_w, i32_w]
                        rfl
                      refine pure_ (i := 11) (N := some 88) (v := ?_) (a' := ?_) #[true, true, true, true, true, true, true, true, true, true, true, true, true, false, false] rfl rfl (by kernel_rfl) (fun _ _ _ h => h) (Or.inl ⟨by rfl, ?_⟩) ?_ ?_
                      rotate_left
                      · intro w'
                        go_simp
                        with_reducible rfl
                      rotate_left
                      · simp only [Act.put, List.setIfInBounds_toArray, List.set_cons_zero, List.set_cons_succ, i64_w, i32_w]
                        rfl
                      exact norm_ (by simp only [putAll, Act.put, List.setIfInBounds_toArray, List.set_cons_zero, List.set_cons_succ]) (hCont wr.heap.size _ ⟨hq, Nat.le_refl _, (hb3.block wr.heap.size (Array.getElem?_eq_some_iff.1 (heap_alloc_new wr (.cells #[.string ⟨#[]⟩, .string ⟨#[]⟩, .int .i64 0] 30))).1).trans (heap_alloc_new wr (.cells #[.string ⟨#[]⟩, .string ⟨#[]⟩, .int .i64 0] 30))⟩)
                  rintro g w4 ⟨hb4, hg4, hn4⟩
                  have d0 : w4.cell? ⟨g, 0, none⟩ = some (.string ⟨#[]⟩) := (Lib.cell_of_heap hn4 0).trans rfl
                  have d1 : w4.cell? ⟨g, 1, none⟩ = some (.string ⟨#[]⟩) := (Lib.cell_of_heap hn4 1).trans rfl
                  have d2 : w4.cell? ⟨g, 2, none⟩ = some (.int .i64 0) := (Lib.cell_of_heap hn4 2).trans rfl
                  have e0 := blk_frozen hn4 0
                  have e1 := blk_frozen hn4 1
                  have e2 := blk_frozen hn4 2
                  refine norm_ (a' := ?_) ?_ ?_
                  rotate_left
                  · simp only [putAll, Act.put, List.setIfInBounds_toArray, List.set_cons_zero, List.set_cons_succ]
                    rfl
                  refine last_ (i := 13) (N := none) #[true, true, true, true, true, true, true, true, true, true, true, true, true, true, false] rfl rfl (by kernel_rfl) (by decide) (fun K hK => ?_)
                  refine skip_ (w1 := ?_) (by rfl) rfl ?_ ?_
                  rotate_left
                  · go_simp
                    rfl
                  refine hK.out _ _ ?_
                  clear hK K
                  refine pure_ (i := 14) (N := some 13) (v := ?_) (a' := ?_) #[true, true, true, true, true, true, true, true, true, true, true, true, true, true, true] rfl rfl (by kernel_rfl) (fun _ _ _ h => h) (Or.inl ⟨by rfl, ?_⟩) ?_ ?_
                  rotate_left
                  · intro w'
                    go_simp
                    with_reducible rfl
                  rotate_left
                  · simp only [Act.put, List.setIfInBounds_toArray, List.set_cons_zero, List.set_cons_succ, i64_w, i32_w]
                    rfl
                  refine done_ (by kernel_rfl) ?_
                  obtain ⟨hb5, hx5⟩ := file_put hb4 hg4 hn4 Y ⟨#[]⟩ 20000
                  obtain ⟨w5, hw5⟩ : ∃ x, ((w4.setCell ⟨g, 0, none⟩ (.string Y)).setCell ⟨g, 1, none⟩ (.string ⟨#[]⟩)).setCell ⟨g, 2, none⟩ (.int .i64 20000) = x := ⟨_, rfl⟩
                  rw [hw5] at hb5 hx5 ⊢
                  have HJ5 := Lib.hid (HJ.out.below hb5)
                  have x0 : w5.cell? ⟨g, 0, none⟩ = some (.string Y) := (Lib.cell_of_heap hx5 0).trans rfl
                  have x1 : w5.cell? ⟨g, 1, none⟩ = some (.string ⟨#[]⟩) := (Lib.cell_of_heap hx5 1).trans rfl
                  have x2 : w5.cell? ⟨g, 2, none⟩ = some (.int .i64 20000) := (Lib.cell_of_heap hx5 2).trans rfl
                  clear hw5 hb4 hg4 hn4 d0 d1 d2 e0 e1 e2 cf0 cf1 cf2 cb6 kz13 hx90 hb5 hx5
                  go_wp2_with fail
                  refine (HRE1.out _).mono ?_
                  rintro e w6 ⟨v0, rfl, hS, hb6⟩
                  obtain ⟨A4, c4, hv4, hl4, hC4⟩ := Kd.S_reads hS
                  subst hv4
                  have HJ6 := Lib.hid (HJ5.out.below hb6)
                  have HC4 := Lib.hid hC4
                  have HL4 := Lib.hid hl4
                  clear x0 x1 x2 hS hb6 hC4 hl4 HJ5 HRE1
                  have hCA := (Kd.N_reads' HJ6.out.R).2.2
                  have hcA := (Kd.N_reads' HJ6.out.R).2.1
                  have hCT : Kd.C k42 w6 Av xj.length xj := by
                    have := Kd.C_take hCA (m := xj.length) (by have := HXL.out; omega)
                    rw [HXL.out.2.2] at this
                    exact this
                  have hEq := fun (W : World) (hb : Below w6.heap.size w6 W) => amanuensisref0_EqRecords.calls 100 A4 c4 xj Av cv xj true W (Kd.C_below HC4.out hb) HL4.out (Kd.C_below hCT hb) (by have := HXL.out; omega) HBE.out
                  have hsl := cut_to (P := Try.prog) 22 42 .i64 Try.underlying22 (info_parts info42).choose_spec.1 Av al.length cv (xj.length : Int) (by omega) (by have := HXL.out; omega) hcA
                  rw [Int.toNat_natCast] at hsl
                  have HEQ := Lib.hid hEq
                  clear hCA hcA hCT hEq
                  go_wp2_with fail
                  refine (HN.out _ _).mono ?_
                  rintro e w' ⟨rfl, hd⟩
                  obtain ⟨n1, rfl⟩ := hd.out
                  clear hd
                  go_wp2_with fail
                  refine (HN.out _ _).mono ?_
                  rintro e w' ⟨rfl, hd⟩
                  obtain ⟨n2, rfl⟩ := hd.out
                  clear hd
                  go_wp2_with fail
                  refine (HEQ.out _ (by repeat (first | exact Below.refl _ _ | apply pw_below_drewN | apply below_drew1 | apply below_alloc))).mono ?_
                  rintro e w7 ⟨rfl, hb7⟩
                  have hA6 := heap_alloc_new w6 (.cells #[.string X, .string ⟨#[]⟩, .int .i64 20000] 30)
                  have hA7 : w7.heap[w6.heap.size]? = some (.cells #[.string X, .string ⟨#[]⟩, .int .i64 20000] 30 (0, 0)) := (hb7.block w6.heap.size (Array.getElem?_eq_some_iff.1 hA6).1).trans hA6
                  have hb67 : Below w6.heap.size w6 w7 := below_step (by repeat (first | exact Below.refl _ _ | apply pw_below_drewN | apply below_drew1 | apply below_alloc)) hb7
                  have HJ7 := Lib.hid (HJ6.out.below hb67)
                  have HC7 := Lib.hid (Kd.C_below HC4.out hb67)
                  have HA7 := Lib.hid hA7
                  have x0 : w7.cell? ⟨w6.heap.size, 0, none⟩ = some (.string X) := (Lib.cell_of_heap hA7 0).trans rfl
                  have x1 : w7.cell? ⟨w6.heap.size, 1, none⟩ = some (.string ⟨#[]⟩) := (Lib.cell_of_heap hA7 1).trans rfl
                  have x2 : w7.cell? ⟨w6.heap.size, 2, none⟩ = some (.int .i64 20000) := (Lib.cell_of_heap hA7 2).trans rfl
                  clear hA6 hA7 hb67 hb7 HJ6 HC4 HEQ hsl g41 g42 gn41 gn42
                  go_wp2_with fail
                  refine (HRE2.out _).mono ?_
                  rintro e w8 ⟨v8, rfl, hS8, hb8⟩
                  obtain ⟨A8, c8, hv8, hl8, hC8⟩ := Kd.S_reads hS8
                  subst hv8
                  have HJ8 := Lib.hid (HJ7.out.below hb8)
                  have hA8 : w8.heap[w6.heap.size]? = some (.cells #[.string X, .string ⟨#[]⟩, .int .i64 20000] 30 (0, 0)) := (hb8.block w6.heap.size (Array.getElem?_eq_some_iff.1 HA7.out).1).trans HA7.out
                  have hC47 := Kd.C_below HC7.out hb8
                  have hEq2 := fun (W : World) (hb : Below w8.heap.size w8 W) => amanuensisref0_EqRecords.calls 100 A8 c8 xj A4 c4 xj true W (Kd.C_below hC8 hb) hl8 (Kd.C_below hC47 hb) HL4.out HBE.out
                  have HEQ := Lib.hid hEq2
                  have HA8 := Lib.hid hA8
                  clear x0 x1 x2 hS8 hC8 hb8 hA8 hC47 hEq2 HA7 HJ7 hl8 HRE2 HC7
                  go_wp2_with fail
                  refine (HN.out _ _).mono ?_
                  rintro e w' ⟨rfl, hd⟩
                  obtain ⟨n3, rfl⟩ := hd.out
                  clear hd
                  go_wp2_with fail
                  refine (HEQ.out _ (by repeat (first | exact Below.refl _ _ | apply pw_below_drewN | apply below_drew1 | apply below_alloc))).mono ?_
                  rintro e w9 ⟨rfl, hb9⟩
                  have hA9 := heap_alloc_new w8 (.cells #[.string X, .string ⟨#[]⟩, .int .i64 20000] 30)
                  have hA9' : w9.heap[w8.heap.size]? = some (.cells #[.string X, .string ⟨#[]⟩, .int .i64 20000] 30 (0, 0)) := (hb9.block w8.heap.size (Array.getElem?_eq_some_iff.1 hA9).1).trans hA9
                  have hb89 : Below w8.heap.size w8 w9 := below_step (by repeat (first | exact Below.refl _ _ | apply pw_below_drewN | apply below_drew1 | apply below_alloc)) hb9
                  have hA89 := (hb89.block w6.heap.size (Array.getElem?_eq_some_iff.1 HA8.out).1).trans HA8.out
                  have HJK := Lib.hid (HJ8.out.below hb89)
                  have x0 : w9.cell? ⟨w8.heap.size, 0, none⟩ = some (.string X) := (Lib.cell_of_heap hA9' 0).trans rfl
                  have x1 : w9.cell? ⟨w8.heap.size, 1, none⟩ = some (.string ⟨#[]⟩) := (Lib.cell_of_heap hA9' 1).trans rfl
                  have x2 : w9.cell? ⟨w8.heap.size, 2, none⟩ = some (.int .i64 20000) := (Lib.cell_of_heap hA9' 2).trans rfl
                  have y0 : w9.cell? ⟨w6.heap.size, 0, none⟩ = some (.string X) := (Lib.cell_of_heap hA89 0).trans rfl
                  have y1 : w9.cell? ⟨w6.heap.size, 1, none⟩ = some (.string ⟨#[]⟩) := (Lib.cell_of_heap hA89 1).trans rfl
                  have y2 : w9.cell? ⟨w6.heap.size, 2, none⟩ = some (.int .i64 20000) := (Lib.cell_of_heap hA89 2).trans rfl
                  have kz : IntKind.i64.wrap (z + 1) = z + 1 := IntWalk.i64_in _ (by have := HZ.out; omega)
                  have hz0 := HZ.out.1
                  have hz1 := HZ.out.2
                  clear hA9 hA9' hb89 hA89 hb9 HEQ HA8 HJ8
                  go_wp2
                  go_roundw
                  case rel => first | exact ⟨z + 1, by omega, by omega, rfl, HJK⟩ | exact ⟨z + 1, by omega, by omega, rfl, Lib.hid (HJK.out.below (by repeat (first | exact Below.refl _ _ | apply below_drew1 | apply pw_below_drewN)))⟩ | exact ⟨by omega, by omega⟩ | exact ⟨by omega, by omega, Lib.hid (HJK.out.below (by repeat (first | exact Below.refl _ _ | apply below_drew1 | apply pw_below_drewN)))⟩
                  case measure => simp [intOf]; omega
                · have hy0 := HY.out.1
                  have hy1 := HY.out.2.1
                  have hy2 := HY.out.2.2
                  have ky : IntKind.i64.wrap (y + 1) = y + 1 := IntWalk.i64_in _ (by omega)
                  go_wp2
                  go_roundw
                  case rel => exact ⟨y + 1, al.length, al, s2, t2, by omega, by omega, by omega, by first | rfl | simp, by first | rfl | simp, HLA1, HP2, by first | exact HJ | exact Lib.hid (HJ.out.below (by repeat (first | exact Below.refl _ _ | apply below_drew1 | apply pw_below_drewN)))⟩
                  case measure => simp [intOf]; omega
            · have p1 : (Int.tmod y 2 == 0) = false := by simpa using gp
              have p2 : (y % 2 == 0) = false := by have := HY.out.1; rw [Int.tmod_eq_emod_of_nonneg this] at gp; simpa using gp
              clear gp
              go_wp2_with (at_builtin; refine Kd.N_append k42 (w0 := w) w.heap.size rfl (.tmp 50) (.tmp 57) 22 42 (.agg #[(.int .i64 0), (.int .i64 0), (.int .i64 0), (.string ⟨#[]⟩), (.string ⟨#[]⟩), (.slice none 0 0)]) 80 rfl Try.underlying22 info42 rfl (by decide) (by omega) u5 all r [.int .i64 r.f0, .int .i64 r.f1, .int .i64 r.f2, .string r.f3, .string r.f4, .slice A5 r.f5.length c5] (fun k => k ≠ w.heap.size ∧ k ≠ gf) (fun k => k < w.heap.size) rfl rfl HFK.out (jk_okp HJ6.out) (jk_fresh HJ6.out) HJ6.out.R HJ6.out.B HJ6.out.B.size (by have := HALL.out; omega) ?_; intro v1 w7 ho hb7 hg7 _; rw [HAL.out] at ho; have hJ7 := HJ6.out.grown ho hb7 hg7; have a0 : w7.cell? ⟨gf, 0, none⟩ = some (.string s) := (Lib.cell_of_heap hJ7.F 0).trans rfl; have a1 : w7.cell? ⟨gf, 1, none⟩ = some (.string t1) := (Lib.cell_of_heap hJ7.F 1).trans rfl; have a2 : w7.cell? ⟨gf, 2, none⟩ = some (.int .i64 20000) := (Lib.cell_of_heap hJ7.F 2).trans rfl; have HJ7 := Lib.hid hJ7; clear ho hb7 hg7 hJ7)
              clear a0 a1 a2 k0 k1 k2 k3 k4 k5 cb0
              obtain ⟨s2, hs2⟩ : ∃ x, s = x := ⟨_, rfl⟩
              obtain ⟨t2, ht2⟩ : ∃ x, t1 = x := ⟨_, rfl⟩
              obtain ⟨m2, hm2⟩ : ∃ x, m = x := ⟨_, rfl⟩
              rw [hs2, ht2] at HJ7
              rw [hs2, ht2, hm2] at HP1
              rw [hm2]
              have HJ9 := HJ7
              have HP2 := HP1
              clear HJ7 HP1 hs2 ht2 hm2
              obtain ⟨Av, cv, hv1⟩ := Kd.N_slice HJ9.out.R
              subst hv1
              go_loopw [11] (fun k wq => ∃ z : Int, 0 ≤ z ∧ z ≤ 5 ∧ k = .int .i64 z ∧ Hid (Jk w w.heap.size gf pcs s2 t2 (.slice Av al.length cv) al wq)) (fun k _ => 5 - (intOf k).toNat)
              case atStart => exact ⟨0, by omega, by omega, rfl, HJ9⟩
              case round =>
                clear HJ9
                obtain ⟨z, hz0, hz1, rfl, HJ⟩ := hrel
                by_cases g3 : z < 5
                · obtain ⟨s, hse⟩ : ∃ x, s2 = x := ⟨_, rfl⟩
                  obtain ⟨t, hte⟩ : ∃ x, t2 = x := ⟨_, rfl⟩
                  subst hse
                  subst hte
                  have hjx := HJ.out.X
                  rw [← HPC.out] at hjx
                  have cb6 : wr.cell? ⟨w.heap.size, 6, none⟩ = some (.int .i64 pn) := (Lib.cell_of_heap hjx 6).trans rfl
                  have cf0 : wr.cell? ⟨gf, 0, none⟩ = some (.string s2) := (Lib.cell_of_heap HJ.out.F 0).trans rfl
                  have cf1 : wr.cell? ⟨gf, 1, none⟩ = some (.string t2) := (Lib.cell_of_heap HJ.out.F 1).trans rfl
                  have cf2 : wr.cell? ⟨gf, 2, none⟩ = some (.int .i64 20000) := (Lib.cell_of_heap HJ.out.F 2).trans rfl
                  obtain ⟨x90, hx90⟩ : ∃ x, IntKind.i64.wrap (z * 13 + pn) = x := ⟨_, rfl⟩
                  have kz13 : IntKind.i64.wrap (z * 13) = z * 13 := IntWalk.i64_in _ (by omega)
                  obtain ⟨m9, hm9⟩ : ∃ m9, amanuensislaw0_Within.f x90 90 = some m9 := ⟨_, by unfold amanuensislaw0_Within.f; rw [if_neg (by decide)]⟩
                  have hwi := fun W : World => amanuensislaw0_Within.calls x90 90 m9 W hm9
                  have hPz := HP2.out.hz
                  obtain ⟨Y, hY⟩ : ∃ Y, s2 ++ t2.extract 0 (min (max m9 0) (t2.size : Int)).toNat = Y := ⟨_, rfl⟩
                  have hcr := fun W : World => file_Crash.calls s2 t2 20000 m9 Y ⟨#[]⟩ 20000 0 W (by rw [Crash_tot s2 t2 20000 m9 (by omega) (by omega), mayF_of (by omega), hY]; rfl)
                  obtain ⟨j, hj1, hj2, hj3, hj4, hj5⟩ := keeps_crash al m2 HP2.out.hm HP2.out.hok (min (max m9 0) (t2.size : Int)).toNat
                  rw [← HP2.out.hs, ← HP2.out.ht, hY] at hj3 hj4
                  have hYz : Y.size ≤ 20000 := by rw [← hY, ByteArray.size_append, ByteArray.size_extract]; omega
                  have h00 : (⟨#[]⟩ : ByteArray).size = 0 := rfl
                  obtain ⟨xj, hxj⟩ : ∃ x, al.take j = x := ⟨_, rfl⟩
                  obtain ⟨X, hX⟩ : ∃ x, catR (al.take j) = x := ⟨_, rfl⟩
                  have hre1 := fun W : World => journal_Recover.calls 30000 Y ⟨#[]⟩ 20000 xj X ⟨#[]⟩ 20000 0 W (by rw [Recover_tot Y 20000 (by omega) (decide_eq_true (by omega)) 30000 (by omega), hj3, ← hX, hj4, hxj])
                  have hXz : X.size ≤ Y.size := by rw [← hX, ← hj4, ByteArray.size_extract]; omega
                  have hre2 := fun W : World => journal_Recover.calls 30000 X ⟨#[]⟩ 20000 xj X ⟨#[]⟩ 20000 0 W (by rw [Recover_tot X 20000 (by omega) (decide_eq_true (by omega)) 30000 (by omega), ← hX, hj5, ByteArray.extract_zero_size, hxj])
                  have hxl : xj.length = j := by rw [← hxj, List.length_take]; omega
                  have hxt : al.take xj.length = xj := by rw [hxl]; exact hxj
                  have hxo : ∀ x, x ∈ xj → x.f5.length ≤ 5 := fun x hx => (okR_small x (HP2.out.hok x (by rw [← hxj] at hx; exact List.mem_of_mem_take hx))).1
                  have hal8 := HP2.out.hl
                  obtain ⟨be, hbe, hbi⟩ := EqRecords_any xj xj 5 (by omega) hxo (by omega) 100 (by omega)
                  have hbt : be = true := hbi.2 rfl
                  subst hbt
                  have g41 : decide ((xj.length : Int) < (m2 : Int)) = false := decide_eq_false (by omega)
                  have g42 : decide ((al.length : Int) < (xj.length : Int)) = false := decide_eq_false (by omega)
                  have gn41 : decide (xj.length < m2) = false := decide_eq_false (by omega)
                  have gn42 : decide (al.length < xj.length) = false := decide_eq_false (by omega)
                  have HWI := Lib.hid hwi
                  have HCR := Lib.hid hcr
                  have HRE1 := Lib.hid hre1
                  have HRE2 := Lib.hid hre2
                  have HBE := Lib.hid hbe
                  have HXL := Lib.hid (And.intro hxl (And.intro hj2 hxt))
                  have HZ := Lib.hid (And.intro hz0 g3)
                  clear hjx hm9 hwi hPz hY hcr hj1 hj2 hj3 hj4 hj5 hYz h00 hxj hX hre1 hre2 hXz hxl hxt hxo hal8 hbe hbi hz0 hz1
                  go_wp2
                  refine start_ (n := 15) (S := fun w' => w'.cell? ⟨gf, 0, none⟩ = some (.string s2) ∧ w'.cell? ⟨gf, 1, none⟩ = some (.string t2) ∧ w'.cell? ⟨gf, 2, none⟩ = some (.int .i64 20000) ∧ w'.cell? ⟨w.heap.size, 6, none⟩ = some (.int .i64 pn)) (ds := [13]) #[false, false, false, false, false, false, false, false, false, false, false, false, false, false, false] (by kernel_rfl) rfl rfl ⟨cf0, cf1, cf2, cb6⟩ (fun hHeld => ?_)
                  refine pure_ (i := 1) (N := some 79) (v := ?_) (a' := ?_) #[false, true, false, false, false, false, false, false, false, false, false, false, false, false, false] rfl rfl (by kernel_rfl) (fun _ _ _ h => h) (Or.inl ⟨by rfl, ?_⟩) ?_ ?_
                  rotate_left
                  · intro w'
                    go_simp
                    with_reducible rfl
                  rotate_left
                  · simp only [Act.put, List.setIfInBounds_toArray, List.set_cons_zero, List.set_cons_succ, i64_w, i32_w]
                    rfl
                  refine pure_ (i := 2) (N := some 80) (v := ?_) (a' := ?_) #[false, true, true, false, false, false, false, false, false, false, false, false, false, false, false] rfl rfl (by kernel_rfl) (fun _ _ _ h => h) (Or.inl ⟨by rfl, ?_⟩) ?_ ?_
                  rotate_left
                  · intro w'
                    go_simp
                    with_reducible rfl
                  rotate_left
                  · simp only [Act.put, List.setIfInBounds_toArray, List.set_cons_zero, List.set_cons_succ, i64_w, i32_w]
                    rfl
                  refine pure_ (i := 3) (N := some 81) (v := ?_) (a' := ?_) #[false, true, true, true, false, false, false, false, false, false, false, false, false, false, false] rfl rfl (by kernel_rfl) (fun _ _ _ h => h) (Or.inl ⟨by rfl, ?_⟩) ?_ ?_
                  rotate_left
                  · intro w'
                    go_simp
                    with_reducible rfl
                  rotate_left
                  · simp only [Act.put, List.setIfInBounds_toArray, List.set_cons_zero, List.set_cons_succ, i64_w, i32_w]
                    rfl
                  refine pure_ (i := 4) (N := some 82) (v := ?_) (a' := ?_) #[false, true, true, true, true, false, false, false, false, false, false, false, false, false, false] rfl rfl (by kernel_rfl) (fun _ _ _ h => h) (Or.inl ⟨by rfl, ?_⟩) ?_ ?_
                  rotate_left
                  · intro w'
                    go_simp
                    with_reducible rfl
                  rotate_left
                  · simp only [Act.put, List.setIfInBounds_toArray, List.set_cons_zero, List.set_cons_succ, i64_w, i32_w]
                    rfl
                  refine take_ (i := 0) (N := some 78) (v := ?_) (a' := ?_) #[true, true, true, true, true, false, false, false, false, false, false, false, false, false, false] rfl rfl (by kernel_rfl) (fun _ _ _ h => h) (Or.inl ⟨by rfl, ?_⟩) hHeld ?_ ?_
                  rotate_left
                  · rintro w' ⟨s0, s1, s2, s3⟩
                    go_simp
                    with_reducible rfl
                  rotate_left
                  · simp only [Act.put, List.setIfInBounds_toArray, List.set_cons_zero, List.set_cons_succ, i64_w, i32_w]
                    rfl
                  refine take_ (i := 5) (N := some 83) (v := ?_) (a' := ?_) #[true, true, true, true, true, true, false, false, false, false, false, false, false, false, false] rfl rfl (by kernel_rfl) (fun _ _ _ h => h) (Or.inl ⟨by rfl, ?_⟩) hHeld ?_ ?_
                  rotate_left
                  · rintro w' ⟨s0, s1, s2, s3⟩
                    go_simp
                    with_reducible rfl
                  rotate_left
                  · simp only [Act.put, List.setIfInBounds_toArray, List.set_cons_zero, List.set_cons_succ, i64_w, i32_w]
                    rfl
                  refine pure_ (i := 6) (N := some 84) (v := ?_) (a' := ?_) #[true, true, true, true, true, true, true, false, false, false, false, false, false, false, false] rfl rfl (by kernel_rfl) (fun _ _ _ h => h) (Or.inl ⟨by rfl, ?_⟩) ?_ ?_
                  rotate_left
                  · intro w'
                    go_simp
                    with_reducible rfl
                  rotate_left
                  · simp only [Act.put, List.setIfInBounds_toArray, List.set_cons_zero, List.set_cons_succ, i64_w, i32_w]
                    rfl
                  refine join_ (σ := Nat) 2 #[true, true, true, true, true, true, true, true, true, true, true, true, true, false, false] (fun g => [(85, .int .i64 m9), (86, .tuple #[.agg #[.string Y, .string ⟨#[]⟩, .int .i64 20000], .int .i64 0]), (77, .tuple #[.agg #[.string Y, .string ⟨#[]⟩, .int .i64 20000], .int .i64 0]), (87, .agg #[.string Y, .string ⟨#[]⟩, .int .i64 20000]), (88, .int .i64 0), (12, .pointer (some ⟨g, 0, none⟩))]) (fun g w' => Below wr.heap.size wr w' ∧ wr.heap.size ≤ g ∧ w'.heap[g]? = some (.cells #[.string ⟨#[]⟩, .string ⟨#[]⟩, .int .i64 0] 30 (0, 0))) ?_ ?_
                  rotate_left
                  · intro hCont
                    refine two_ (i := 7) (j := 12) (Ni := some 85) (Nj := some 12) #[true, true, true, true, true, true, true, true, false, false, false, false, false, false, false] #[true, true, true, true, true, true, true, false, false, false, false, false, true, false, false] rfl rfl rfl rfl (by kernel_rfl) (by decide) (by decide) (fun K hK => ?_) (fun K hK => ?_)
                    · skip
                      refine goes_ Try.func11 (by kernel_rfl) rfl #[.int .i64 x90, .int .i64 90] (by rfl) rfl rfl (by (try simp only [List.map_toArray, List.map_cons, List.map_nil]); first | done | rfl) ?_
                      refine (HWI.out _).mono ?_
                      rintro e w3 ⟨rfl, hd3⟩
                      obtain ⟨n3, rfl⟩ := hd3.out
                      refine ⟨_, rfl, ?_⟩
                      have hqd := pw_below_drewN (below_drew1 (Below.refl wr.heap.size wr)) n3
                      refine hK.out _ _ ⟨(pw_cell_below hqd cf0), (pw_cell_below hqd cf1), (pw_cell_below hqd cf2), (pw_cell_below hqd cb6)⟩ (fun hHeld => ?_)
                      clear hK K
                      refine norm_ (a' := ?_) ?_ ?_
                      rotate_left
                      · show Act.put _ (some 85) _ = _
                        simp only [Act.put, List.setIfInBounds_toArray, List.set_cons_zero, List.set_cons_succ, i64_w, i32_w]
                        rfl
                      refine two_ (i := 8) (j := 12) (Ni := some 86) (Nj := some 12) #[true, true, true, true, true, true, true, true, true, false, false, false, false, false, false] #[true, true, true, true, true, true, true, true, false, false, false, false, true, false, false] rfl rfl rfl rfl (by kernel_rfl) (by decide) (by decide) (fun K hK => ?_) (fun K hK => ?_)
                      · skip
                        refine goes_ Try.func10 (by kernel_rfl) rfl #[.agg #[.string s2, .string t2, .int .i64 20000], .int .i64 m9] (by rfl) rfl rfl (by (try simp only [List.map_toArray, List.map_cons, List.map_nil]); first | done | rfl) ?_
                        refine (HCR.out _).mono ?_
                        rintro e w3 ⟨rfl, hb3⟩
                        refine ⟨_, rfl, ?_⟩
                        have hq : Below wr.heap.size wr w3 := below_step (by repeat (first | exact Below.refl _ _ | apply below_alloc | apply below_drew1 | apply pw_below_drewN)) hb3
                        refine hK.out _ _ ⟨(pw_cell_below hq cf0), (pw_cell_below hq cf1), (pw_cell_below hq cf2), (pw_cell_below hq cb6)⟩ (fun hHeld => ?_)
                        clear hK K
                        refine norm_ (a' := ?_) ?_ ?_
                        rotate_left
                        · show Act.put _ (some 86) _ = _
                          simp only [Act.put, List.setIfInBounds_toArray, List.set_cons_zero, List.set_cons_succ, i64_w, i32_w]
                          rfl
                        refine pure_ (i := 9) (N := some 77) (v := ?_) (a' := ?_) #[true, true, true, true, true, true, true, true, true, true, false, false, false, false, false] rfl rfl (by kernel_rfl) (fun _ _ _ h => h) (Or.inl ⟨by rfl, ?_⟩) ?_ ?_
                        rotate_left
                        · intro w'
                          go_simp
                          with_reducible rfl
                        rotate_left
                        · simp only [Act.put, List.setIfInBounds_toArray, List.set_cons_zero, List.set_cons_succ, i64_w, i32_w]
                          rfl
                        refine pure_ (i := 10) (N := some 87) (v := ?_) (a' := ?_) #[true, true, true, true, true, true, true, true, true, true, true, false, false, false, false] rfl rfl (by kernel_rfl) (fun _ _ _ h => h) (Or.inl ⟨by rfl, ?_⟩) ?_ ?_
                        rotate_left
                        · intro w'
                          go_simp
                          with_reducible rfl
                        rotate_left
                        · simp only [Act.put, List.setIfInBounds_toArray, List.set_cons_zero, List.set_cons_succ, i64_w, i32_w]
                          rfl
                        refine pure_ (i := 11) (N := some 88) (v := ?_) (a' := ?_) #[true, true, true, true, true, true, true, true, true, true, true, true, false, false, false] rfl rfl (by kernel_rfl) (fun _ _ _ h => h) (Or.inl ⟨by rfl, ?_⟩) ?_ ?_
                        rotate_left
                        · intro w'
                          go_simp
                          with_reducible rfl
                        rotate_left
                        · simp only [Act.put, List.setIfInBounds_toArray, List.set_cons_zero, List.set_cons_succ, i64_w, i32_w]
                          rfl
                        refine one_ (i := 12) (N := some 12) #[true, true, true, true, true, true, true, true, true, true, true, true, true, false, false] rfl rfl (by kernel_rfl) (by decide) (fun K hK => ?_)
                        refine value_ (w1 := ?_) (v := ?_) (by rfl) rfl ?_ ?_
                        rotate_left 2
                        · go_simp
                          constructor
                          · rfl
                          · rfl
                        have hqa := below_alloc hq (.cells #[.string ⟨#[]⟩, .string ⟨#[]⟩, .int .i64 0] 30)
                        refine hK.out _ _ ⟨(pw_cell_below hqa cf0), (pw_cell_below hqa cf1), (pw_cell_below hqa cf2), (pw_cell_below hqa cb6)⟩ (fun hHeld => ?_)
                        clear hK K
                        refine norm_ (a' := ?_) ?_ ?_
                        rotate_left
                        · show Act.put _ (some 12) _ = _
                          simp only [Act.put, List.setIfInBounds_toArray, List.set_cons_zero, List.set_cons_succ, i64_w, i32_w]
                          rfl
                        exact norm_ (by simp only [putAll, Act.put, List.setIfInBounds_toArray, List.set_cons_zero, List.set_cons_succ]) (hCont w3.heap.size _ ⟨hqa, hq.size, heap_alloc_new w3 _⟩)
                      · skip
                        refine value_ (w1 := ?_) (v := ?_) (by rfl) rfl ?_ ?_
                        rotate_left 2
                        · go_simp
                          constructor
                          · rfl
                          · rfl
                        have hqa := below_alloc hqd (.cells #[.string ⟨#[]⟩, .string ⟨#[]⟩, .int .i64 0] 30)
                        refine hK.out _ _ ⟨(pw_cell_below hqa cf0), (pw_cell_below hqa cf1), (pw_cell_below hqa cf2), (pw_cell_below hqa cb6)⟩ (fun hHeld => ?_)
                        clear hK K
                        refine norm_ (a' := ?_) ?_ ?_
                        rotate_left
                        · show Act.put _ (some 12) _ = _
                          simp only [Act.put, List.setIfInBounds_toArray, List.set_cons_zero, List.set_cons_succ, i64_w, i32_w]
                          rfl
                        refine one_ (i := 8) (N := some 86) #[true, true, true, true, true, true, true, true, true, false, false, false, true, false, false] rfl rfl (by kernel_rfl) (by decide) (fun K hK => ?_)
                        refine goes_ Try.func10 (by kernel_rfl) rfl #[.agg #[.string s2, .string t2, .int .i64 20000], .int .i64 m9] (by rfl) rfl rfl (by (try simp only [List.map_toArray, List.map_cons, List.map_nil]); first | done | rfl) ?_
                        refine (HCR.out _).mono ?_
                        rintro e w3 ⟨rfl, hb3⟩
                        refine ⟨_, rfl, ?_⟩
                        have hq : Below wr.heap.size wr w3 := below_step (by repeat (first | exact Below.refl _ _ | apply below_alloc | apply below_drew1 | apply pw_below_drewN)) hb3
                        refine hK.out _ _ ⟨(pw_cell_below hq cf0), (pw_cell_below hq cf1), (pw_cell_below hq cf2), (pw_cell_below hq cb6)⟩ (fun hHeld => ?_)
                        clear hK K
                        refine norm_ (a' := ?_) ?_ ?_
                        rotate_left
                        · show Act.put _ (some 86) _ = _
                          simp only [Act.put, List.setIfInBounds_toArray, List.set_cons_zero, List.set_cons_succ, i64_w, i32_w]
                          rfl
                        refine pure_ (i := 9) (N := some 77) (v := ?_) (a' := ?_) #[true, true, true, true, true, true, true, true, true, true, false, false, true, false, false] rfl rfl (by kernel_rfl) (fun _ _ _ h => h) (Or.inl ⟨by rfl, ?_⟩) ?_ ?_
                        rotate_left
                        · intro w'
                          go_simp
                          with_reducible rfl
                        rotate_left
                        · simp only [Act.put, List.setIfInBounds_toArray, List.set_cons_zero, List.set_cons_succ, i64_w, i32_w]
                          rfl
                        refine pure_ (i := 10) (N := some 87) (v := ?_) (a' := ?_) #[true, true, true, true, true, true, true, true, true, true, true, false, true, false, false] rfl rfl (by kernel_rfl) (fun _ _ _ h => h) (Or.inl ⟨by rfl, ?_⟩) ?_ ?_
                        rotate_left
                        · intro w'
                          go_simp
                          with_reducible rfl
                        rotate_left
                        · simp only [Act.put, List.setIfInBounds_toArray, List.set_cons_zero, List.set_cons_succ, i64_w, i32_w]
                          rfl
                        refine pure_ (i := 11) (N := some 88) (v := ?_) (a' := ?_) #[true, true, true, true, true, true, true, true, true, true, true, true, true, false, false] rfl rfl (by kernel_rfl) (fun _ _ _ h => h) (Or.inl ⟨by rfl, ?_⟩) ?_ ?_
                        rotate_left
                        · intro w'
                          go_simp
                          with_reducible rfl
                        rotate_left
                        · simp only [Act.put, List.setIfInBounds_toArray, List.set_cons_zero, List.set_cons_succ, i64_w, i32_w]
                          rfl
                        exact norm_ (by simp only [putAll, Act.put, List.setIfInBounds_toArray, List.set_cons_zero, List.set_cons_succ]) (hCont wr.heap.size _ ⟨hq, Nat.le_refl _, (hb3.block wr.heap.size (Array.getElem?_eq_some_iff.1 (heap_alloc_new wr (.cells #[.string ⟨#[]⟩, .string ⟨#[]⟩, .int .i64 0] 30))).1).trans (heap_alloc_new wr (.cells #[.string ⟨#[]⟩, .string ⟨#[]⟩, .int .i64 0] 30))⟩)
                    · skip
                      refine value_ (w1 := ?_) (v := ?_) (by rfl) rfl ?_ ?_
                      rotate_left 2
                      · go_simp
                        constructor
                        · rfl
                        · rfl
                      have hqa := below_alloc (below_drew1 (Below.refl wr.heap.size wr)) (.cells #[.string ⟨#[]⟩, .string ⟨#[]⟩, .int .i64 0] 30)
                      refine hK.out _ _ ⟨(pw_cell_below hqa cf0), (pw_cell_below hqa cf1), (pw_cell_below hqa cf2), (pw_cell_below hqa cb6)⟩ (fun hHeld => ?_)
                      clear hK K
                      refine norm_ (a' := ?_) ?_ ?_
                      rotate_left
                      · show Act.put _ (some 12) _ = _
                        simp only [Act.put, List.setIfInBounds_toArray, List.set_cons_zero, List.set_cons_succ, i64_w, i32_w]
                        rfl
                      refine one_ (i := 7) (N := some 85) #[true, true, true, true, true, true, true, true, false, false, false, false, true, false, false] rfl rfl (by kernel_rfl) (by decide) (fun K hK => ?_)
                      refine goes_ Try.func11 (by kernel_rfl) rfl #[.int .i64 x90, .int .i64 90] (by rfl) rfl rfl (by (try simp only [List.map_toArray, List.map_cons, List.map_nil]); first | done | rfl) ?_
                      refine (HWI.out _).mono ?_
                      rintro e w3 ⟨rfl, hd3⟩
                      obtain ⟨n3, rfl⟩ := hd3.out
                      refine ⟨_, rfl, ?_⟩
                      have hqd := pw_below_drewN hqa n3
                      refine hK.out _ _ ⟨(pw_cell_below hqd cf0), (pw_cell_below hqd cf1), (pw_cell_below hqd cf2), (pw_cell_below hqd cb6)⟩ (fun hHeld => ?_)
                      clear hK K
                      refine norm_ (a' := ?_) ?_ ?_
                      rotate_left
                      · show Act.put _ (some 85) _ = _
                        simp only [Act.put, List.setIfInBounds_toArray, List.set_cons_zero, List.set_cons_succ, i64_w, i32_w]
                        rfl
                      refine one_ (i := 8) (N := some 86) #[true, true, true, true, true, true, true, true, true, false, false, false, true, false, false] rfl rfl (by kernel_rfl) (by decide) (fun K hK => ?_)
                      refine goes_ Try.func10 (by kernel_rfl) rfl #[.agg #[.string s2, .string t2, .int .i64 20000], .int .i64 m9] (by rfl) rfl rfl (by (try simp only [List.map_toArray, List.map_cons, List.map_nil]); first | done | rfl) ?_
                      refine (HCR.out _).mono ?_
                      rintro e w3 ⟨rfl, hb3⟩
                      refine ⟨_, rfl, ?_⟩
                      have hq : Below wr.heap.size wr w3 := below_step (by repeat (first | exact Below.refl _ _ | apply below_alloc | apply below_drew1 | apply pw_below_drewN)) hb3
                      refine hK.out _ _ ⟨(pw_cell_below hq cf0), (pw_cell_below hq cf1), (pw_cell_below hq cf2), (pw_cell_below hq cb6)⟩ (fun hHeld => ?_)
                      clear hK K
                      refine norm_ (a' := ?_) ?_ ?_
                      rotate_left
                      · show Act.put _ (some 86) _ = _
                        simp only [Act.put, List.setIfInBounds_toArray, List.set_cons_zero, List.set_cons_succ, i64_w, i32_w]
                        rfl
                      refine pure_ (i := 9) (N := some 77) (v := ?_) (a' := ?_) #[true, true, true, true, true, true, true, true, true, true, false, false, true, false, false] rfl rfl (by kernel_rfl) (fun _ _ _ h => h) (Or.inl ⟨by rfl, ?_⟩) ?_ ?_
                      rotate_left
                      · intro w'
                        go_simp
                        with_reducible rfl
                      rotate_left
                      · simp only [Act.put, List.setIfInBounds_toArray, List.set_cons_zero, List.set_cons_succ, i64_w, i32_w]
                        rfl
                      refine pure_ (i := 10) (N := some 87) (v := ?_) (a' := ?_) #[true, true, true, true, true, true, true, true, true, true, true, false, true, false, false] rfl rfl (by kernel_rfl) (fun _ _ _ h => h) (Or.inl ⟨by rfl, ?_⟩) ?_ ?_
                      rotate_left
                      · intro w'
                        go_simp
                        with_reducible rfl
                      rotate_left
                      · simp only [Act.put, List.setIfInBounds_toArray, List.set_cons_zero, List.set_cons_succ, i64_w, i32_w]
                        rfl
                      refine pure_ (i := 11) (N := some 88) (v := ?_) (a' := ?_) #[true, true, true, true, true, true, true, true, true, true, true, true, true, false, false] rfl rfl (by kernel_rfl) (fun _ _ _ h => h) (Or.inl ⟨by rfl, ?_⟩) ?_ ?_
                      rotate_left
                      · intro w'
                        go_simp
                        with_reducible rfl
                      rotate_left
                      · simp only [Act.put, List.setIfInBounds_toArray, List.set_cons_zero, List.set_cons_succ, i64_w, i32_w]
                        rfl
                      exact norm_ (by simp only [putAll, Act.put, List.setIfInBounds_toArray, List.set_cons_zero, List.set_cons_succ]) (hCont wr.heap.size _ ⟨hq, Nat.le_refl _, (hb3.block wr.heap.size (Array.getElem?_eq_some_iff.1 (heap_alloc_new wr (.cells #[.string ⟨#[]⟩, .string ⟨#[]⟩, .int .i64 0] 30))).1).trans (heap_alloc_new wr (.cells #[.string ⟨#[]⟩, .string ⟨#[]⟩, .int .i64 0] 30))⟩)
                  rintro g w4 ⟨hb4, hg4, hn4⟩
                  have d0 : w4.cell? ⟨g, 0, none⟩ = some (.string ⟨#[]⟩) := (Lib.cell_of_heap hn4 0).trans rfl
                  have d1 : w4.cell? ⟨g, 1, none⟩ = some (.string ⟨#[]⟩) := (Lib.cell_of_heap hn4 1).trans rfl
                  have d2 : w4.cell? ⟨g, 2, none⟩ = some (.int .i64 0) := (Lib.cell_of_heap hn4 2).trans rfl
                  have e0 := blk_frozen hn4 0
                  have e1 := blk_frozen hn4 1
                  have e2 := blk_frozen hn4 2
                  refine norm_ (a' := ?_) ?_ ?_
                  rotate_left
                  · simp only [putAll, Act.put, List.setIfInBounds_toArray, List.set_cons_zero, List.set_cons_succ]
                    rfl
                  refine last_ (i := 13) (N := none) #[true, true, true, true, true, true, true, true, true, true, true, true, true, true, false] rfl rfl (by kernel_rfl) (by decide) (fun K hK => ?_)
                  refine skip_ (w1 := ?_) (by rfl) rfl ?_ ?_
                  rotate_left
                  · go_simp
                    rfl
                  refine hK.out _ _ ?_
                  clear hK K
                  refine pure_ (i := 14) (N := some 13) (v := ?_) (a' := ?_) #[true, true, true, true, true, true, true, true, true, true, true, true, true, true, true] rfl rfl (by kernel_rfl) (fun _ _ _ h => h) (Or.inl ⟨by rfl, ?_⟩) ?_ ?_
                  rotate_left
                  · intro w'
                    go_simp
                    with_reducible rfl
                  rotate_left
                  · simp only [Act.put, List.setIfInBounds_toArray, List.set_cons_zero, List.set_cons_succ, i64_w, i32_w]
                    rfl
                  refine done_ (by kernel_rfl) ?_
                  obtain ⟨hb5, hx5⟩ := file_put hb4 hg4 hn4 Y ⟨#[]⟩ 20000
                  obtain ⟨w5, hw5⟩ : ∃ x, ((w4.setCell ⟨g, 0, none⟩ (.string Y)).setCell ⟨g, 1, none⟩ (.string ⟨#[]⟩)).setCell ⟨g, 2, none⟩ (.int .i64 20000) = x := ⟨_, rfl⟩
                  rw [hw5] at hb5 hx5 ⊢
                  have HJ5 := Lib.hid (HJ.out.below hb5)
                  have x0 : w5.cell? ⟨g, 0, none⟩ = some (.string Y) := (Lib.cell_of_heap hx5 0).trans rfl
                  have x1 : w5.cell? ⟨g, 1, none⟩ = some (.string ⟨#[]⟩) := (Lib.cell_of_heap hx5 1).trans rfl
                  have x2 : w5.cell? ⟨g, 2, none⟩ = some (.int .i64 20000) := (Lib.cell_of_heap hx5 2).trans rfl
                  clear hw5 hb4 hg4 hn4 d0 d1 d2 e0 e1 e2 cf0 cf1 cf2 cb6 kz13 hx90 hb5 hx5
                  go_wp2_with fail
                  refine (HRE1.out _).mono ?_
                  rintro e w6 ⟨v0, rfl, hS, hb6⟩
                  obtain ⟨A4, c4, hv4, hl4, hC4⟩ := Kd.S_reads hS
                  subst hv4
                  have HJ6 := Lib.hid (HJ5.out.below hb6)
                  have HC4 := Lib.hid hC4
                  have HL4 := Lib.hid hl4
                  clear x0 x1 x2 hS hb6 hC4 hl4 HJ5 HRE1
                  have hCA := (Kd.N_reads' HJ6.out.R).2.2
                  have hcA := (Kd.N_reads' HJ6.out.R).2.1
                  have hCT : Kd.C k42 w6 Av xj.length xj := by
                    have := Kd.C_take hCA (m := xj.length) (by have := HXL.out; omega)
                    rw [HXL.out.2.2] at this
                    exact this
                  have hEq := fun (W : World) (hb : Below w6.heap.size w6 W) => amanuensisref0_EqRecords.calls 100 A4 c4 xj Av cv xj true W (Kd.C_below HC4.out hb) HL4.out (Kd.C_below hCT hb) (by have := HXL.out; omega) HBE.out
                  have hsl := cut_to (P := Try.prog) 22 42 .i64 Try.underlying22 (info_parts info42).choose_spec.1 Av al.length cv (xj.length : Int) (by omega) (by have := HXL.out; omega) hcA
                  rw [Int.toNat_natCast] at hsl
                  have HEQ := Lib.hid hEq
                  clear hCA hcA hCT hEq
                  go_wp2_with fail
                  refine (HN.out _ _).mono ?_
                  rintro e w' ⟨rfl, hd⟩
                  obtain ⟨n1, rfl⟩ := hd.out
                  clear hd
                  go_wp2_with fail
                  refine (HN.out _ _).mono ?_
                  rintro e w' ⟨rfl, hd⟩
                  obtain ⟨n2, rfl⟩ := hd.out
                  clear hd
                  go_wp2_with fail
                  refine (HEQ.out _ (by repeat (first | exact Below.refl _ _ | apply pw_below_drewN | apply below_drew1 | apply below_alloc))).mono ?_
                  rintro e w7 ⟨rfl, hb7⟩
                  have hA6 := heap_alloc_new w6 (.cells #[.string X, .string ⟨#[]⟩, .int .i64 20000] 30)
                  have hA7 : w7.heap[w6.heap.size]? = some (.cells #[.string X, .string ⟨#[]⟩, .int .i64 20000] 30 (0, 0)) := (hb7.block w6.heap.size (Array.getElem?_eq_some_iff.1 hA6).1).trans hA6
                  have hb67 : Below w6.heap.size w6 w7 := below_step (by repeat (first | exact Below.refl _ _ | apply pw_below_drewN | apply below_drew1 | apply below_alloc)) hb7
                  have HJ7 := Lib.hid (HJ6.out.below hb67)
                  have HC7 := Lib.hid (Kd.C_below HC4.out hb67)
                  have HA7 := Lib.hid hA7
                  have x0 : w7.cell? ⟨w6.heap.size, 0, none⟩ = some (.string X) := (Lib.cell_of_heap hA7 0).trans rfl
                  have x1 : w7.cell? ⟨w6.heap.size, 1, none⟩ = some (.string ⟨#[]⟩) := (Lib.cell_of_heap hA7 1).trans rfl
                  have x2 : w7.cell? ⟨w6.heap.size, 2, none⟩ = some (.int .i64 20000) := (Lib.cell_of_heap hA7 2).trans rfl
                  clear hA6 hA7 hb67 hb7 HJ6 HC4 HEQ hsl g41 g42 gn41 gn42
                  go_wp2_with fail
                  refine (HRE2.out _).mono ?_
                  rintro e w8 ⟨v8, rfl, hS8, hb8⟩
                  obtain ⟨A8, c8, hv8, hl8, hC8⟩ := Kd.S_reads hS8
                  subst hv8
                  have HJ8 := Lib.hid (HJ7.out.below hb8)
                  have hA8 : w8.heap[w6.heap.size]? = some (.cells #[.string X, .string ⟨#[]⟩, .int .i64 20000] 30 (0, 0)) := (hb8.block w6.heap.size (Array.getElem?_eq_some_iff.1 HA7.out).1).trans HA7.out
                  have hC47 := Kd.C_below HC7.out hb8
                  have hEq2 := fun (W : World) (hb : Below w8.heap.size w8 W) => amanuensisref0_EqRecords.calls 100 A8 c8 xj A4 c4 xj true W (Kd.C_below hC8 hb) hl8 (Kd.C_below hC47 hb) HL4.out HBE.out
                  have HEQ := Lib.hid hEq2
                  have HA8 := Lib.hid hA8
                  clear x0 x1 x2 hS8 hC8 hb8 hA8 hC47 hEq2 HA7 HJ7 hl8 HRE2 HC7
                  go_wp2_with fail
                  refine (HN.out _ _).mono ?_
                  rintro e w' ⟨rfl, hd⟩
                  obtain ⟨n3, rfl⟩ := hd.out
                  clear hd
                  go_wp2_with fail
                  refine (HEQ.out _ (by repeat (first | exact Below.refl _ _ | apply pw_below_drewN | apply below_drew1 | apply below_alloc))).mono ?_
                  rintro e w9 ⟨rfl, hb9⟩
                  have hA9 := heap_alloc_new w8 (.cells #[.string X, .string ⟨#[]⟩, .int .i64 20000] 30)
                  have hA9' : w9.heap[w8.heap.size]? = some (.cells #[.string X, .string ⟨#[]⟩, .int .i64 20000] 30 (0, 0)) := (hb9.block w8.heap.size (Array.getElem?_eq_some_iff.1 hA9).1).trans hA9
                  have hb89 : Below w8.heap.size w8 w9 := below_step (by repeat (first | exact Below.refl _ _ | apply pw_below_drewN | apply below_drew1 | apply below_alloc)) hb9
                  have hA89 := (hb89.block w6.heap.size (Array.getElem?_eq_some_iff.1 HA8.out).1).trans HA8.out
                  have HJK := Lib.hid (HJ8.out.below hb89)
                  have x0 : w9.cell? ⟨w8.heap.size, 0, none⟩ = some (.string X) := (Lib.cell_of_heap hA9' 0).trans rfl
                  have x1 : w9.cell? ⟨w8.heap.size, 1, none⟩ = some (.string ⟨#[]⟩) := (Lib.cell_of_heap hA9' 1).trans rfl
                  have x2 : w9.cell? ⟨w8.heap.size, 2, none⟩ = some (.int .i64 20000) := (Lib.cell_of_heap hA9' 2).trans rfl
                  have y0 : w9.cell? ⟨w6.heap.size, 0, none⟩ = some (.string X) := (Lib.cell_of_heap hA89 0).trans rfl
                  have y1 : w9.cell? ⟨w6.heap.size, 1, none⟩ = some (.string ⟨#[]⟩) := (Lib.cell_of_heap hA89 1).trans rfl
                  have y2 : w9.cell? ⟨w6.heap.size, 2, none⟩ = some (.int .i64 20000) := (Lib.cell_of_heap hA89 2).trans rfl
                  have kz : IntKind.i64.wrap (z + 1) = z + 1 := IntWalk.i64_in _ (by have := HZ.out; omega)
                  have hz0 := HZ.out.1
                  have hz1 := HZ.out.2
                  clear hA9 hA9' hb89 hA89 hb9 HEQ HA8 HJ8
                  go_wp2
                  go_roundw
                  case rel => first | exact ⟨z + 1, by omega, by omega, rfl, HJK⟩ | exact ⟨z + 1, by omega, by omega, rfl, Lib.hid (HJK.out.below (by repeat (first | exact Below.refl _ _ | apply below_drew1 | apply pw_below_drewN)))⟩ | exact ⟨by omega, by omega⟩ | exact ⟨by omega, by omega, Lib.hid (HJK.out.below (by repeat (first | exact Below.refl _ _ | apply below_drew1 | apply pw_below_drewN)))⟩
                  case measure => simp [intOf]; omega
                · have hy0 := HY.out.1
                  have hy1 := HY.out.2.1
                  have hy2 := HY.out.2.2
                  have ky : IntKind.i64.wrap (y + 1) = y + 1 := IntWalk.i64_in _ (by omega)
                  go_wp2
                  go_roundw
                  case rel => exact ⟨y + 1, m2, al, s2, t2, by omega, by omega, by omega, by first | rfl | simp, by first | rfl | simp, HLA1, HP2, by first | exact HJ | exact Lib.hid (HJ.out.below (by repeat (first | exact Below.refl _ _ | apply below_drew1 | apply pw_below_drewN)))⟩
                  case measure => simp [intOf]; omega
          · have hq4 : (q4 != 0) = true := by
              have hqq := HQ.out
              by_cases h1 : mayF s t 20000 = true ∧ okR r = true
              · rw [if_pos h1] at hqq
                by_cases h2 : ((frame (spellR r)).size : Int) > 20000 - s.size - t.size
                · rw [if_pos h2] at hqq; simp only [Prod.mk.injEq] at hqq; rw [← hqq.2.2.2]; rfl
                · exact absurd ⟨h1.2, h2⟩ gok
              · rw [if_neg h1] at hqq; simp only [Prod.mk.injEq] at hqq; rw [← hqq.2.2.2]; rfl
            have hy0 := HY.out.1
            have hy1 := HY.out.2.1
            have hy2 := HY.out.2.2
            have ky : IntKind.i64.wrap (y + 1) = y + 1 := IntWalk.i64_in _ (by omega)
            clear gok
            go_wp2_with (refine (HN.out _ _).mono ?_; rintro e w' ⟨rfl, hd⟩; obtain ⟨nn, rfl⟩ := hd.out; clear hd)
            go_roundw
            case rel => exact ⟨y + 1, m, all, s, t, by omega, by omega, by omega, by first | rfl | simp, by first | rfl | simp, Lib.hid (by have := HLA.out; omega), HP, by first | exact HJ5 | exact Lib.hid (HJ5.out.below (by repeat (first | exact Below.refl _ _ | apply below_drew1 | apply pw_below_drewN)))⟩
            case measure => simp [intOf]; omega
        · clear hy0 hy1 hy2
          go_wp2_with fail
          refine (HW.out _).mono ?_
          rintro e w5 ⟨rfl, hb5⟩
          go_wp2
          go_ret
          exact ⟨rfl, below_step HJ.out.B hb5⟩
      · clear hy0 hy1 hy2
        go_wp2_with fail
        refine (HW.out _).mono ?_
        rintro e w5 ⟨rfl, hb5⟩
        go_wp2
        go_ret
        exact ⟨rfl, below_step HJ.out.B hb5⟩
end Go.Proofs.Ytmhjhhlgdenlkaa.P
