/- Words, walks and plain laws of the statement that the last of these texts proves. -/
import Derived.Test.YtljkopbalejcgaaDoorMd1
section
namespace Go.Proofs.YtljkopbalejcgaaDoor.P
open Go.RowKit Go.Proofs.YtljkopbalejcgaaDoorW.PrintWords Go.Proofs.YtljkopbalejcgaaDoorW.PrintLast Go.Proofs.YtljkopbalejcgaaDoorW.PrintMore
attribute [local go_sem] max2_int min2_int max_two min_two max_three min_three max_four min_four
set_option linter.unusedVariables false
set_option linter.unusedSimpArgs false
def cmd_Rcpt.j0 : Nat → Bool → Int → ByteArray → Option (Int × ByteArray × (List (S49)) × Int)
 | 0, _, _, _ => none
 | k + 1, x15, x117000, x117001 => if x15 = true then ((some (([(⟨(⟨#[78, 79, 84, 73, 70, 89]⟩ : ByteArray), (⟨#[78, 69, 86, 69, 82]⟩ : ByteArray)⟩ : S49)] : List (S49)) : List (S49))).bind fun y117 => ((cmd_May.f k x117000 x117001 y117).bind fun t120 => (if t120 = true then (some (x117000, x117001, y117, 0)) else (some (0, (⟨#[]⟩ : ByteArray), ([] : List (S49)), 4))))) else ((cmd_May.f k x117000 x117001 ([] : List (S49))).bind fun t121 => (if t121 = true then (some (x117000, x117001, ([] : List (S49)), 0)) else (some (0, (⟨#[]⟩ : ByteArray), ([] : List (S49)), 4))))
def cmd_Rcpt.f (k : Nat) (a0 : ByteArray) (a1_0 : Bool) (a1_1 : Bool) (a1_2 : Bool) (a1_3 : Bool) (a1_4 : Bool) (a1_5 : Bool) (a1_6 : Int) (a2 : Bool) : Option (Int × ByteArray × (List (S49)) × Int) := if a1_3 = true then (cmd_Rcpt.j0 k a2 4 a0) else (cmd_Rcpt.j0 k false 4 a0)
theorem cmd_Rcpt.mono_l : ∀ k, (∀ y0 y1 y2, LeO (cmd_Rcpt.j0 k y0 y1 y2) (cmd_Rcpt.j0 (k + 1) y0 y1 y2))
 | 0 => fun _ _ _ r h => by simp [cmd_Rcpt.j0] at h
 | k + 1 => by
  have ih0 := cmd_Rcpt.mono_l k
  ·intro y0 y1 y2
   unfold cmd_Rcpt.j0
   repeat' first
   | (with_reducible exact ih0 _ _ _)
   | (with_reducible exact cmd_May.mono _ _ _ _)
   | (with_reducible exact LeO.refl _)
   | (with_reducible exact LeO.none _)
   | (with_reducible refine LeO.ite ?_ ?_)
   | (with_reducible refine LeO.bind ?_ (fun _ => ?_))
   | exact ih0 _ _ _
   | exact cmd_May.mono _ _ _ _
   | exact LeO.none _
   | refine LeO.ite ?_ ?_
   | refine LeO.bind ?_ (fun _ => ?_)
theorem cmd_Rcpt.mono : ∀ a0 a1 a2 a3 a4 a5 a6 a7 a8 k, LeO (cmd_Rcpt.f k a0 a1 a2 a3 a4 a5 a6 a7 a8) (cmd_Rcpt.f (k + 1) a0 a1 a2 a3 a4 a5 a6 a7 a8) := by
 intro a0 a1 a2 a3 a4 a5 a6 a7 a8 k
 have ih0 := cmd_Rcpt.mono_l k
 unfold cmd_Rcpt.f
 repeat' first
   | (with_reducible exact ih0 _ _ _)
   | (with_reducible exact cmd_May.mono _ _ _ _)
   | (with_reducible exact LeO.refl _)
   | (with_reducible exact LeO.none _)
   | (with_reducible refine LeO.ite ?_ ?_)
   | (with_reducible refine LeO.bind ?_ (fun _ => ?_))
   | exact ih0 _ _ _
   | exact cmd_May.mono _ _ _ _
   | exact LeO.none _
   | refine LeO.ite ?_ ?_
   | refine LeO.bind ?_ (fun _ => ?_)
set_option maxHeartbeats 8000000 in
set_option maxRecDepth 100000 in
theorem cmd_Rcpt.calls (k : Nat) (a0 : ByteArray) (a1_0 : Bool) (a1_1 : Bool) (a1_2 : Bool) (a1_3 : Bool) (a1_4 : Bool) (a1_5 : Bool) (a1_6 : Int) (a2 : Bool) (r1 : Int) (r2 : ByteArray) (r3 : List (S49)) (r4 : Int) (w : World) (h : cmd_Rcpt.f k a0 a1_0 a1_1 a1_2 a1_3 a1_4 a1_5 a1_6 a2 = some (r1, r2, r3, r4)) :
  Calls Tryd.prog 11 #[.string a0, .agg #[.bool a1_0, .bool a1_1, .bool a1_2, .bool a1_3, .bool a1_4, .bool a1_5, .int .i64 a1_6], .bool a2] w fun e w' => ∃ v2_ : Value, e = .returned (.tuple #[.agg #[.int .u8 r1, .string r2, v2_], .int .i64 r4]) ∧ Kd.R k49 49 w' w.heap.size (fun _ => True) v2_ r3 ∧ Below w.heap.size w w' := by
 have hu23 := Tryd.underlying23
 have hu27 := Tryd.underlying27
 have hu49 := Tryd.underlying49
 have HB := Aside0.mk (Below.refl w.heap.size w)
 have H : (if a1_3 = true then (cmd_Rcpt.j0 k a2 4 a0) else (cmd_Rcpt.j0 k false 4 a0)) = some (r1, r2, r3, r4) := h
 clear h
 have HC4 := Aside0.mk H
 clear H
 go_enter Tryd.func11, Tryd.ntmps11
 go_upto_region 2 with (first | ((with_reducible refine gate_dst (N := 4) rfl ?_); refine box_event ?hg (N := 4) ?hd (cs := #[.bool a1_0, .bool a1_1, .bool a1_2, .bool a1_3, .bool a1_4, .bool a1_5, .int .i64 a1_6]) (t := 23) ?hr ?_; (case hd => rfl); (case hg => rfl); (case hr => first | (go_simp; done) | (go_simp; rfl)); intro gb114 hg w5 hbox hb; have n0_ := Aside0.mk (below_step (by repeat (first | (with_reducible first | exact HB.out | apply below_alloc | apply pw_below_drewN | apply below_drew1) | exact HB.out)) hb); have n1_ := Aside0.mk (hbox); have n2_ := Aside0.mk ((by rw [hg]; exact (below_size (by repeat (first | (with_reducible first | exact HB.out | apply below_alloc | apply pw_below_drewN | apply below_drew1) | exact HB.out))) : w.heap.size ≤ gb114)); have n3_ := Aside0.mk ((by rw [hg]; exact (below_size (by repeat (first | (with_reducible first | exact HB.out | apply below_alloc | apply pw_below_drewN | apply below_drew1) | exact HB.out))) : w.heap.size ≤ gb114)); clear HB; have HB := n0_; have BK114 := n1_; have GW114 := n2_; have GE114 := n3_; clear n0_ n1_ n2_ n3_; clear hb hbox hg) | ((with_reducible refine gate_dst (N := 6) rfl ?_); refine box_event ?hg (N := 6) ?hd (cs := #[.int .u8 0, .string (⟨#[]⟩ : ByteArray), .slice none 0 0]) (t := 27) ?hr ?_; (case hd => rfl); (case hg => rfl); (case hr => first | (go_simp; done) | (go_simp; rfl)); intro gb115 hg w6 hbox hb; have n0_ := Aside0.mk (blk_below (g := gb114) (o := .cells #[.bool a1_0, .bool a1_1, .bool a1_2, .bool a1_3, .bool a1_4, .bool a1_5, .int .i64 a1_6] 23 (0, 0)) (by (with_reducible repeat (first | refine blk_drewN ?_ _ | refine blk_drew ?_ | refine blk_alloc ?_ _)); exact BK114.out) hb); have n1_ := Aside0.mk (below_step (by repeat (first | (with_reducible first | exact HB.out | apply below_alloc | apply pw_below_drewN | apply below_drew1 | refine below_set ?_ GE114.out) | exact HB.out)) hb); have n2_ := Aside0.mk (hbox); have n3_ := Aside0.mk ((by rw [hg]; exact (below_size (by repeat (first | (with_reducible first | exact HB.out | apply below_alloc | apply pw_below_drewN | apply below_drew1 | refine below_set ?_ GE114.out) | exact HB.out))) : w.heap.size ≤ gb115)); have n4_ := Aside0.mk ((by rw [hg]; exact (below_size (by repeat (first | (with_reducible first | exact HB.out | apply below_alloc | apply pw_below_drewN | apply below_drew1 | refine below_set ?_ GE114.out) | exact HB.out))) : w.heap.size ≤ gb115)); have n5_ := Aside0.mk ((by rw [hg]; exact Nat.ne_of_lt (blk_lt (g := gb114) (o := .cells #[.bool a1_0, .bool a1_1, .bool a1_2, .bool a1_3, .bool a1_4, .bool a1_5, .int .i64 a1_6] 23 (0, 0)) (by (with_reducible repeat (first | refine blk_drewN ?_ _ | refine blk_drew ?_ | refine blk_alloc ?_ _)); exact BK114.out)) : gb114 ≠ gb115)); have n6_ := Aside0.mk ((by rw [hg]; exact Nat.ne_of_gt (blk_lt (g := gb114) (o := .cells #[.bool a1_0, .bool a1_1, .bool a1_2, .bool a1_3, .bool a1_4, .bool a1_5, .int .i64 a1_6] 23 (0, 0)) (by (with_reducible repeat (first | refine blk_drewN ?_ _ | refine blk_drew ?_ | refine blk_alloc ?_ _)); exact BK114.out)) : gb115 ≠ gb114)); clear BK114; clear HB; have BK114 := n0_; have HB := n1_; have BK115 := n2_; have GW115 := n3_; have GE115 := n4_; have NB114_115 := n5_; have NB115_114 := n6_; clear n0_ n1_ n2_ n3_ n4_ n5_ n6_; clear hb hbox hg) | ((with_reducible refine gate_dst (N := 8) rfl ?_); refine box_event ?hg (N := 8) ?hd (cs := #[.int .u8 0, .string (⟨#[]⟩ : ByteArray), .slice none 0 0]) (t := 27) ?hr ?_; (case hd => rfl); (case hg => rfl); (case hr => first | (go_simp; done) | (go_simp; rfl)); intro gb116 hg w7 hbox hb; have n0_ := Aside0.mk (blk_below (g := gb114) (o := .cells #[.bool a1_0, .bool a1_1, .bool a1_2, .bool a1_3, .bool a1_4, .bool a1_5, .int .i64 a1_6] 23 (0, 0)) (by (with_reducible repeat (first | refine blk_drewN ?_ _ | refine blk_drew ?_ | refine blk_alloc ?_ _)); exact BK114.out) hb); have n1_ := Aside0.mk (blk_below (g := gb115) (o := .cells #[.int .u8 0, .string (⟨#[]⟩ : ByteArray), .slice none 0 0] 27 (0, 0)) (by (with_reducible repeat (first | refine blk_drewN ?_ _ | refine blk_drew ?_ | refine blk_alloc ?_ _)); exact BK115.out) hb); have n2_ := Aside0.mk (below_step (by repeat (first | (with_reducible first | exact HB.out | apply below_alloc | apply pw_below_drewN | apply below_drew1 | refine below_set ?_ GE114.out | refine below_set ?_ GE115.out) | exact HB.out)) hb); have n3_ := Aside0.mk (hbox); have n4_ := Aside0.mk ((by rw [hg]; exact (below_size (by repeat (first | (with_reducible first | exact HB.out | apply below_alloc | apply pw_below_drewN | apply below_drew1 | refine below_set ?_ GE114.out | refine below_set ?_ GE115.out) | exact HB.out))) : w.heap.size ≤ gb116)); have n5_ := Aside0.mk ((by rw [hg]; exact (below_size (by repeat (first | (with_reducible first | exact HB.out | apply below_alloc | apply pw_below_drewN | apply below_drew1 | refine below_set ?_ GE114.out | refine below_set ?_ GE115.out) | exact HB.out))) : w.heap.size ≤ gb116)); have n6_ := Aside0.mk ((by rw [hg]; exact Nat.ne_of_lt (blk_lt (g := gb114) (o := .cells #[.bool a1_0, .bool a1_1, .bool a1_2, .bool a1_3, .bool a1_4, .bool a1_5, .int .i64 a1_6] 23 (0, 0)) (by (with_reducible repeat (first | refine blk_drewN ?_ _ | refine blk_drew ?_ | refine blk_alloc ?_ _)); exact BK114.out)) : gb114 ≠ gb116)); have n7_ := Aside0.mk ((by rw [hg]; exact Nat.ne_of_gt (blk_lt (g := gb114) (o := .cells #[.bool a1_0, .bool a1_1, .bool a1_2, .bool a1_3, .bool a1_4, .bool a1_5, .int .i64 a1_6] 23 (0, 0)) (by (with_reducible repeat (first | refine blk_drewN ?_ _ | refine blk_drew ?_ | refine blk_alloc ?_ _)); exact BK114.out)) : gb116 ≠ gb114)); have n8_ := Aside0.mk ((by rw [hg]; exact Nat.ne_of_lt (blk_lt (g := gb115) (o := .cells #[.int .u8 0, .string (⟨#[]⟩ : ByteArray), .slice none 0 0] 27 (0, 0)) (by (with_reducible repeat (first | refine blk_drewN ?_ _ | refine blk_drew ?_ | refine blk_alloc ?_ _)); exact BK115.out)) : gb115 ≠ gb116)); have n9_ := Aside0.mk ((by rw [hg]; exact Nat.ne_of_gt (blk_lt (g := gb115) (o := .cells #[.int .u8 0, .string (⟨#[]⟩ : ByteArray), .slice none 0 0] 27 (0, 0)) (by (with_reducible repeat (first | refine blk_drewN ?_ _ | refine blk_drew ?_ | refine blk_alloc ?_ _)); exact BK115.out)) : gb116 ≠ gb115)); clear BK114; clear BK115; clear HB; have BK114 := n0_; have BK115 := n1_; have HB := n2_; have BK116 := n3_; have GW116 := n4_; have GE116 := n5_; have NB114_116 := n6_; have NB116_114 := n7_; have NB115_116 := n8_; have NB116_115 := n9_; clear n0_ n1_ n2_ n3_ n4_ n5_ n6_ n7_ n8_ n9_; clear hb hbox hg; have hnb8 := NB116_114.out; have hnc8 := NB114_116.out; have hnb9 := NB116_115.out; have hnc9 := NB115_116.out; have hcz10_0 : w7.cell? ⟨gb116, 0, none⟩ = some (.int .u8 0) := (blk_cell BK116.out 0).trans rfl; have hcz10_1 : w7.cell? ⟨gb116, 1, none⟩ = some (.string (⟨#[]⟩ : ByteArray)) := (blk_cell BK116.out 1).trans rfl; have hcz10_2 : w7.cell? ⟨gb116, 2, none⟩ = some (.slice none 0 0) := (blk_cell BK116.out 2).trans rfl; have hfz10_0 := blk_frozen BK116.out 0; have hfz10_1 := blk_frozen BK116.out 1; have hfz10_2 := blk_frozen BK116.out 2))
 (try simp only [Act.put, List.setIfInBounds_toArray, List.set_cons_zero, List.set_cons_succ])
 go_cut [15] (fun v15 wc => ∃ (kq : Nat) (x15_3 : Bool), v15 = .bool x15_3 ∧ Aside0 (cmd_Rcpt.j0 kq x15_3 4 a0 = some (r1, r2, r3, r4)) ∧ Aside0 (kq ≤ k) ∧ Aside0 (wc.heap[gb114]? = some (.cells #[.bool a1_0, .bool a1_1, .bool a1_2, .bool a1_3, .bool a1_4, .bool a1_5, .int .i64 a1_6] 23 (0, 0))) ∧ Aside0 (wc.heap[gb115]? = some (.cells #[.int .u8 0, .string (⟨#[]⟩ : ByteArray), (.slice none 0 0)] 27 (0, 0))) ∧ Aside0 (wc.heap[gb116]? = some (.cells #[.int .u8 4, .string a0, (.slice none 0 0)] 27 (0, 0))) ∧ Aside0 (Below w.heap.size w wc))
 case first =>
  have H := HC4.out
  clear HC4
  by_cases c11 : a1_3 = true
  ·subst c11
   have H1 : (cmd_Rcpt.j0 k a2 4 a0) = some (r1, r2, r3, r4) := by rw [if_pos rfl] at H; exact H
   clear H
   have H := H1
   clear H1
   have H' := Aside0.mk H
   clear H
   have hnb12 := NB114_115.out
   have hnc12 := NB115_114.out
   have hnb13 := NB114_116.out
   have hnc13 := NB116_114.out
   have hcz14_0 : w7.cell? ⟨gb114, 0, none⟩ = some (.bool a1_0) := (blk_cell BK114.out 0).trans rfl
   have hcz14_1 : w7.cell? ⟨gb114, 1, none⟩ = some (.bool a1_1) := (blk_cell BK114.out 1).trans rfl
   have hcz14_2 : w7.cell? ⟨gb114, 2, none⟩ = some (.bool a1_2) := (blk_cell BK114.out 2).trans rfl
   have hcz14_3 : w7.cell? ⟨gb114, 3, none⟩ = some (.bool true) := (blk_cell BK114.out 3).trans rfl
   have hcz14_4 : w7.cell? ⟨gb114, 4, none⟩ = some (.bool a1_4) := (blk_cell BK114.out 4).trans rfl
   have hcz14_5 : w7.cell? ⟨gb114, 5, none⟩ = some (.bool a1_5) := (blk_cell BK114.out 5).trans rfl
   have hcz14_6 : w7.cell? ⟨gb114, 6, none⟩ = some (.int .i64 a1_6) := (blk_cell BK114.out 6).trans rfl
   have hfz14_0 := blk_frozen BK114.out 0
   have hfz14_1 := blk_frozen BK114.out 1
   have hfz14_2 := blk_frozen BK114.out 2
   have hfz14_3 := blk_frozen BK114.out 3
   have hfz14_4 := blk_frozen BK114.out 4
   have hfz14_5 := blk_frozen BK114.out 5
   have hfz14_6 := blk_frozen BK114.out 6
   go_wp2
   go_meet
   case rel => exact ⟨_, (a2), (by first | rfl | (simp; done) | (simp [*]; done)), H', ⟨by first | omega | exact Nat.le_refl _⟩, ⟨by (with_reducible repeat (first | refine blk_drewN ?_ _ | refine blk_drew ?_ | refine blk_alloc ?_ _)); refine blk_far ?_ NB114_116.out _; (with_reducible repeat (first | refine blk_drewN ?_ _ | refine blk_drew ?_ | refine blk_alloc ?_ _)); refine blk_far ?_ NB114_116.out _; (with_reducible repeat (first | refine blk_drewN ?_ _ | refine blk_drew ?_ | refine blk_alloc ?_ _)); refine blk_far ?_ NB114_116.out _; (with_reducible repeat (first | refine blk_drewN ?_ _ | refine blk_drew ?_ | refine blk_alloc ?_ _)); exact BK114.out⟩, ⟨by (with_reducible repeat (first | refine blk_drewN ?_ _ | refine blk_drew ?_ | refine blk_alloc ?_ _)); refine blk_far ?_ NB115_116.out _; (with_reducible repeat (first | refine blk_drewN ?_ _ | refine blk_drew ?_ | refine blk_alloc ?_ _)); refine blk_far ?_ NB115_116.out _; (with_reducible repeat (first | refine blk_drewN ?_ _ | refine blk_drew ?_ | refine blk_alloc ?_ _)); refine blk_far ?_ NB115_116.out _; (with_reducible repeat (first | refine blk_drewN ?_ _ | refine blk_drew ?_ | refine blk_alloc ?_ _)); exact BK115.out⟩, ⟨by (with_reducible repeat (first | refine blk_drewN ?_ _ | refine blk_drew ?_ | refine blk_alloc ?_ _)); refine blk_put (cs := #[.int .u8 4, .string a0, .slice none 0 0]) ?_ 2 _ rfl; (with_reducible repeat (first | refine blk_drewN ?_ _ | refine blk_drew ?_ | refine blk_alloc ?_ _)); refine blk_put (cs := #[.int .u8 4, .string (⟨#[]⟩ : ByteArray), .slice none 0 0]) ?_ 1 _ rfl; (with_reducible repeat (first | refine blk_drewN ?_ _ | refine blk_drew ?_ | refine blk_alloc ?_ _)); refine blk_put (cs := #[.int .u8 0, .string (⟨#[]⟩ : ByteArray), .slice none 0 0]) ?_ 0 _ rfl; (with_reducible repeat (first | refine blk_drewN ?_ _ | refine blk_drew ?_ | refine blk_alloc ?_ _)); exact BK116.out⟩, ⟨by repeat (first | (with_reducible first | exact HB.out | apply below_alloc | apply pw_below_drewN | apply below_drew1 | refine below_set ?_ GE114.out | refine below_set ?_ GE115.out | refine below_set ?_ GE116.out) | exact HB.out)⟩⟩
  ·replace c11 := Bool.eq_false_iff.mpr c11
   subst c11
   have H1 : (cmd_Rcpt.j0 k false 4 a0) = some (r1, r2, r3, r4) := by rw [if_neg (show ¬ (false = true) by decide)] at H; exact H
   clear H
   have H := H1
   clear H1
   have H' := Aside0.mk H
   clear H
   have hnb15 := NB114_115.out
   have hnc15 := NB115_114.out
   have hnb16 := NB114_116.out
   have hnc16 := NB116_114.out
   have hcz17_0 : w7.cell? ⟨gb114, 0, none⟩ = some (.bool a1_0) := (blk_cell BK114.out 0).trans rfl
   have hcz17_1 : w7.cell? ⟨gb114, 1, none⟩ = some (.bool a1_1) := (blk_cell BK114.out 1).trans rfl
   have hcz17_2 : w7.cell? ⟨gb114, 2, none⟩ = some (.bool a1_2) := (blk_cell BK114.out 2).trans rfl
   have hcz17_3 : w7.cell? ⟨gb114, 3, none⟩ = some (.bool false) := (blk_cell BK114.out 3).trans rfl
   have hcz17_4 : w7.cell? ⟨gb114, 4, none⟩ = some (.bool a1_4) := (blk_cell BK114.out 4).trans rfl
   have hcz17_5 : w7.cell? ⟨gb114, 5, none⟩ = some (.bool a1_5) := (blk_cell BK114.out 5).trans rfl
   have hcz17_6 : w7.cell? ⟨gb114, 6, none⟩ = some (.int .i64 a1_6) := (blk_cell BK114.out 6).trans rfl
   have hfz17_0 := blk_frozen BK114.out 0
   have hfz17_1 := blk_frozen BK114.out 1
   have hfz17_2 := blk_frozen BK114.out 2
   have hfz17_3 := blk_frozen BK114.out 3
   have hfz17_4 := blk_frozen BK114.out 4
   have hfz17_5 := blk_frozen BK114.out 5
   have hfz17_6 := blk_frozen BK114.out 6
   go_wp2
   go_meet
   case rel => exact ⟨_, (false), (by first | rfl | (simp; done) | (simp [*]; done)), H', ⟨by first | omega | exact Nat.le_refl _⟩, ⟨by (with_reducible repeat (first | refine blk_drewN ?_ _ | refine blk_drew ?_ | refine blk_alloc ?_ _)); refine blk_far ?_ NB114_116.out _; (with_reducible repeat (first | refine blk_drewN ?_ _ | refine blk_drew ?_ | refine blk_alloc ?_ _)); refine blk_far ?_ NB114_116.out _; (with_reducible repeat (first | refine blk_drewN ?_ _ | refine blk_drew ?_ | refine blk_alloc ?_ _)); refine blk_far ?_ NB114_116.out _; (with_reducible repeat (first | refine blk_drewN ?_ _ | refine blk_drew ?_ | refine blk_alloc ?_ _)); exact BK114.out⟩, ⟨by (with_reducible repeat (first | refine blk_drewN ?_ _ | refine blk_drew ?_ | refine blk_alloc ?_ _)); refine blk_far ?_ NB115_116.out _; (with_reducible repeat (first | refine blk_drewN ?_ _ | refine blk_drew ?_ | refine blk_alloc ?_ _)); refine blk_far ?_ NB115_116.out _; (with_reducible repeat (first | refine blk_drewN ?_ _ | refine blk_drew ?_ | refine blk_alloc ?_ _)); refine blk_far ?_ NB115_116.out _; (with_reducible repeat (first | refine blk_drewN ?_ _ | refine blk_drew ?_ | refine blk_alloc ?_ _)); exact BK115.out⟩, ⟨by (with_reducible repeat (first | refine blk_drewN ?_ _ | refine blk_drew ?_ | refine blk_alloc ?_ _)); refine blk_put (cs := #[.int .u8 4, .string a0, .slice none 0 0]) ?_ 2 _ rfl; (with_reducible repeat (first | refine blk_drewN ?_ _ | refine blk_drew ?_ | refine blk_alloc ?_ _)); refine blk_put (cs := #[.int .u8 4, .string (⟨#[]⟩ : ByteArray), .slice none 0 0]) ?_ 1 _ rfl; (with_reducible repeat (first | refine blk_drewN ?_ _ | refine blk_drew ?_ | refine blk_alloc ?_ _)); refine blk_put (cs := #[.int .u8 0, .string (⟨#[]⟩ : ByteArray), .slice none 0 0]) ?_ 0 _ rfl; (with_reducible repeat (first | refine blk_drewN ?_ _ | refine blk_drew ?_ | refine blk_alloc ?_ _)); exact BK116.out⟩, ⟨by repeat (first | (with_reducible first | exact HB.out | apply below_alloc | apply pw_below_drewN | apply below_drew1 | refine below_set ?_ GE114.out | refine below_set ?_ GE115.out | refine below_set ?_ GE116.out) | exact HB.out)⟩⟩
 case rest =>
  clear HC4
  try clear c1
  try clear p2
  try clear c8
  try clear c9
  try clear c11
  try clear c12
  try clear c13
  try clear c15
  try clear c16
  try clear hcz10_0
  try clear hcz10_1
  try clear hcz10_2
  try clear hcz14_0
  try clear hcz14_1
  try clear hcz14_2
  try clear hcz14_3
  try clear hcz14_4
  try clear hcz14_5
  try clear hcz14_6
  try clear hcz17_0
  try clear hcz17_1
  try clear hcz17_2
  try clear hcz17_3
  try clear hcz17_4
  try clear hcz17_5
  try clear hcz17_6
  try clear hfz10_0
  try clear hfz10_1
  try clear hfz10_2
  try clear hfz14_0
  try clear hfz14_1
  try clear hfz14_2
  try clear hfz14_3
  try clear hfz14_4
  try clear hfz14_5
  try clear hfz14_6
  try clear hfz17_0
  try clear hfz17_1
  try clear hfz17_2
  try clear hfz17_3
  try clear hfz17_4
  try clear hfz17_5
  try clear hfz17_6
  obtain ⟨kq, x15_3, rfl, HA, HJ3, BK114, BK115, BK116, HB⟩ := hcut
  cases kq with
  | zero => exact absurd HA.out (by simp [cmd_Rcpt.j0])
  | succ kj3 =>
   have H := HA.out
   clear HA
   simp only [cmd_Rcpt.j0] at H
   by_cases c18 : x15_3 = true
   ·subst c18
    have H1 : ((some (([(⟨(⟨#[78, 79, 84, 73, 70, 89]⟩ : ByteArray), (⟨#[78, 69, 86, 69, 82]⟩ : ByteArray)⟩ : S49)] : List (S49)) : List (S49))).bind fun y117 => ((cmd_May.f kj3 4 a0 y117).bind fun t120 => (if t120 = true then (some (4, a0, y117, 0)) else (some (0, (⟨#[]⟩ : ByteArray), ([] : List (S49)), 4))))) = some (r1, r2, r3, r4) := by rw [if_pos rfl] at H; exact H
    clear H
    have H := H1
    clear H1
    obtain ⟨y117, hy117⟩ : ∃ y_ : List (S49), y_ = (([(⟨(⟨#[78, 79, 84, 73, 70, 89]⟩ : ByteArray), (⟨#[78, 69, 86, 69, 82]⟩ : ByteArray)⟩ : S49)] : List (S49))) := ⟨_, rfl⟩
    replace H : ((cmd_May.f kj3 4 a0 y117).bind fun t120 => (if t120 = true then (some (4, a0, y117, 0)) else (some (0, (⟨#[]⟩ : ByteArray), ([] : List (S49)), 4)))) = some (r1, r2, r3, r4) := by first | (rw [hy117]; with_reducible exact H) | (have H2_ := (Option.bind_some _ _).symm.trans H; rw [hy117]; with_reducible exact H2_) | (have H2_ := (Option.bind_some _ _).symm.trans H; with_reducible exact H2_) | with_reducible exact H | (rw [hy117]; exact H) | exact H
    have Ny117 := Aside0.mk hy117
    clear hy117
    replace H := Option.bind_eq_some_iff.mp H
    obtain ⟨t120, A190, H⟩ := H
    replace H : (if t120 = true then (some (4, a0, y117, 0)) else (some (0, (⟨#[]⟩ : ByteArray), ([] : List (S49)), 4))) = some (r1, r2, r3, r4) := H
    have A19 := Aside0.mk A190
    clear A190
    by_cases c20 : t120 = true
    ·subst c20
     have H1 : (some (4, a0, y117, 0)) = some (r1, r2, r3, r4) := by rw [if_pos rfl] at H; exact H
     clear H
     have H := H1
     clear H1
     simp only [Option.some.injEq, Prod.mk.injEq] at H
     obtain ⟨rfl, rfl, rfl, rfl⟩ := H
     go_wp2_with (first | ((with_reducible refine gate_dst (N := 17) rfl ?_); refine Kd.R_lit k49 _ 49 ?hg (N := 17) ?hd (xs := ([(⟨(⟨#[78, 79, 84, 73, 70, 89]⟩ : ByteArray), (⟨#[78, 69, 86, 69, 82]⟩ : ByteArray)⟩ : S49)] : List (S49))) (inner := [.string (⟨#[78, 79, 84, 73, 70, 89]⟩ : ByteArray), .string (⟨#[78, 69, 86, 69, 82]⟩ : ByteArray)]) (ok := fun _ => True) (okp := fun _ => True) ?hr ?hp (fun _ hk => hk) trivial (Below.refl _ _) (Nat.le_refl _) (by simp) ?_; (case hd => rfl); (case hg => rfl); (case hr => first | (go_simp; done) | (go_simp; rfl)); (case hp => exact (Reps.c2 (show Kd.M k49 _ _ _ (⟨(⟨#[78, 79, 84, 73, 70, 89]⟩ : ByteArray), (⟨#[78, 69, 86, 69, 82]⟩ : ByteArray)⟩ : S49) [.string (⟨#[78, 79, 84, 73, 70, 89]⟩ : ByteArray), .string (⟨#[78, 69, 86, 69, 82]⟩ : ByteArray)] from (k49_mkM _ _ _ (⟨(⟨#[78, 79, 84, 73, 70, 89]⟩ : ByteArray), (⟨#[78, 69, 86, 69, 82]⟩ : ByteArray)⟩ : S49) )) (Reps.none _ _))); intro v118 w21 ho22 hb hg_ hnew_; clear hg_ hnew_; (first | rw [← Ny117.out] at ho22 | (simp only [Int.reduceToNat] at ho22; rw [← Ny117.out] at ho22)); have n0_ := Aside0.mk (Kd.R_lower ho22 (below_size (by repeat (first | (with_reducible first | exact HB.out | apply below_alloc | apply pw_below_drewN | apply below_drew1 | refine below_set ?_ GE114.out | refine below_set ?_ GE115.out | refine below_set ?_ GE116.out) | exact HB.out)))); have n1_ := Aside0.mk (blk_below (g := gb114) (o := .cells #[.bool a1_0, .bool a1_1, .bool a1_2, .bool a1_3, .bool a1_4, .bool a1_5, .int .i64 a1_6] 23 (0, 0)) (by (with_reducible repeat (first | refine blk_drewN ?_ _ | refine blk_drew ?_ | refine blk_alloc ?_ _)); exact BK114.out) hb); have n2_ := Aside0.mk (blk_below (g := gb115) (o := .cells #[.int .u8 0, .string (⟨#[]⟩ : ByteArray), .slice none 0 0] 27 (0, 0)) (by (with_reducible repeat (first | refine blk_drewN ?_ _ | refine blk_drew ?_ | refine blk_alloc ?_ _)); exact BK115.out) hb); have n3_ := Aside0.mk (blk_below (g := gb116) (o := .cells #[.int .u8 4, .string a0, .slice none 0 0] 27 (0, 0)) (by (with_reducible repeat (first | refine blk_drewN ?_ _ | refine blk_drew ?_ | refine blk_alloc ?_ _)); exact BK116.out) hb); have n4_ := Aside0.mk (below_step (by repeat (first | (with_reducible first | exact HB.out | apply below_alloc | apply pw_below_drewN | apply below_drew1 | refine below_set ?_ GE114.out | refine below_set ?_ GE115.out | refine below_set ?_ GE116.out) | exact HB.out)) hb); clear BK114; clear BK115; clear BK116; clear HB; have HO119 := n0_; have BK114 := n1_; have BK115 := n2_; have BK116 := n3_; have HB := n4_; clear n0_ n1_ n2_ n3_ n4_; clear hb ho22; obtain ⟨Ao23, co23, eo23⟩ := Kd.R_slice HO119.out; subst eo23; have hnb24 := NB116_114.out; have hnc24 := NB114_116.out; have hnb25 := NB116_115.out; have hnc25 := NB115_116.out; have hcz26_0 : w21.cell? ⟨gb116, 0, none⟩ = some (.int .u8 4) := (blk_cell BK116.out 0).trans rfl; have hcz26_1 : w21.cell? ⟨gb116, 1, none⟩ = some (.string a0) := (blk_cell BK116.out 1).trans rfl; have hcz26_2 : w21.cell? ⟨gb116, 2, none⟩ = some (.slice none 0 0) := (blk_cell BK116.out 2).trans rfl; have hfz26_0 := blk_frozen BK116.out 0; have hfz26_1 := blk_frozen BK116.out 1; have hfz26_2 := blk_frozen BK116.out 2) | ((with_reducible refine gate_callee (f := 17) rfl ?_); refine goesL_ (some 20) rfl rfl Tryd.func17 (by kernel_rfl) rfl #[.agg #[.int .u8 4, .string a0, .slice Ao23 y117.length co23]] rfl (by (try simp only [List.map_toArray, List.map_cons, List.map_nil]); first | done | rfl | (simp only [List.length_drop, List.length_take]; rfl)) ?_; (with_reducible refine (cmd_May.calls kj3 4 a0 _ _ y117 true _ ?side1 ?side2 A19.out).mono ?_); (case side1 => refine (Kd.R_reads' (e := 49) (base := w.heap.size) (ok := fun k_ => True) (n := y117.length) (c := co23) ?_).2.2; exact (by (with_reducible repeat (first | apply Kd.R_alloc | apply Kd.R_drewN | apply Kd.R_drew)); exact (Kd.R_mono (Kd.R_far (p := ⟨gb116, 2, none⟩) (Kd.R_types HO119.out BK116.out (by decide)) (fun _ hk => hk.2) (.slice Ao23 y117.length co23)) (fun _ h_ => h_.1)))); (case side2 => exact (Kd.R_reads' HO119.out).2.1); rintro e w27 ⟨rfl, hb⟩; refine ⟨_, rfl, ?_⟩; have n0_ := Aside0.mk (Kd.R_below (by (with_reducible repeat (first | apply Kd.R_alloc | apply Kd.R_drewN | apply Kd.R_drew)); exact (Kd.R_mono (Kd.R_far (p := ⟨gb116, 2, none⟩) (Kd.R_types HO119.out BK116.out (by decide)) (fun _ hk => hk.2) (.slice Ao23 y117.length co23)) (fun _ h_ => h_.1))) hb); have n1_ := Aside0.mk (blk_below (g := gb114) (o := .cells #[.bool a1_0, .bool a1_1, .bool a1_2, .bool a1_3, .bool a1_4, .bool a1_5, .int .i64 a1_6] 23 (0, 0)) (by (with_reducible repeat (first | refine blk_drewN ?_ _ | refine blk_drew ?_ | refine blk_alloc ?_ _)); refine blk_far ?_ NB114_116.out _; (with_reducible repeat (first | refine blk_drewN ?_ _ | refine blk_drew ?_ | refine blk_alloc ?_ _)); exact BK114.out) hb); have n2_ := Aside0.mk (blk_below (g := gb115) (o := .cells #[.int .u8 0, .string (⟨#[]⟩ : ByteArray), .slice none 0 0] 27 (0, 0)) (by (with_reducible repeat (first | refine blk_drewN ?_ _ | refine blk_drew ?_ | refine blk_alloc ?_ _)); refine blk_far ?_ NB115_116.out _; (with_reducible repeat (first | refine blk_drewN ?_ _ | refine blk_drew ?_ | refine blk_alloc ?_ _)); exact BK115.out) hb); have n3_ := Aside0.mk (blk_below (g := gb116) (o := .cells #[.int .u8 4, .string a0, .slice Ao23 y117.length co23] 27 (0, 0)) (by (with_reducible repeat (first | refine blk_drewN ?_ _ | refine blk_drew ?_ | refine blk_alloc ?_ _)); refine blk_put (cs := #[.int .u8 4, .string a0, .slice none 0 0]) ?_ 2 _ rfl; (with_reducible repeat (first | refine blk_drewN ?_ _ | refine blk_drew ?_ | refine blk_alloc ?_ _)); exact BK116.out) hb); have n4_ := Aside0.mk (below_step (by repeat (first | (with_reducible first | exact HB.out | apply below_alloc | apply pw_below_drewN | apply below_drew1 | refine below_set ?_ GE114.out | refine below_set ?_ GE115.out | refine below_set ?_ GE116.out) | exact HB.out)) hb); clear HO119; clear BK114; clear BK115; clear BK116; clear HB; have HO119 := n0_; have BK114 := n1_; have BK115 := n2_; have BK116 := n3_; have HB := n4_; clear n0_ n1_ n2_ n3_ n4_; (try clear hb); (try clear hb2); (try clear hk); (try clear hi); have hcz28_0 : w27.cell? ⟨gb116, 0, none⟩ = some (.int .u8 4) := (blk_cell BK116.out 0).trans rfl; have hcz28_1 : w27.cell? ⟨gb116, 1, none⟩ = some (.string a0) := (blk_cell BK116.out 1).trans rfl; have hcz28_2 : w27.cell? ⟨gb116, 2, none⟩ = some (.slice Ao23 y117.length co23) := (blk_cell BK116.out 2).trans rfl; have hfz28_0 := blk_frozen BK116.out 0; have hfz28_1 := blk_frozen BK116.out 1; have hfz28_2 := blk_frozen BK116.out 2; have hnb29 := NB115_114.out; have hnc29 := NB114_115.out; have hcz30_0 : w27.cell? ⟨gb115, 0, none⟩ = some (.int .u8 0) := (blk_cell BK115.out 0).trans rfl; have hcz30_1 : w27.cell? ⟨gb115, 1, none⟩ = some (.string (⟨#[]⟩ : ByteArray)) := (blk_cell BK115.out 1).trans rfl; have hcz30_2 : w27.cell? ⟨gb115, 2, none⟩ = some (.slice none 0 0) := (blk_cell BK115.out 2).trans rfl; have hfz30_0 := blk_frozen BK115.out 0; have hfz30_1 := blk_frozen BK115.out 1; have hfz30_2 := blk_frozen BK115.out 2))
     refine bodyPost_ret (results_ct rfl _ _ gb115 27 #[.int .u8 4, .string a0, .slice Ao23 y117.length co23] (0, 0) _ rfl (by (with_reducible repeat (first | refine blk_drewN ?_ _ | refine blk_drew ?_ | refine blk_alloc ?_ _)); refine blk_put (cs := #[.int .u8 4, .string a0, .slice none 0 0]) ?_ 2 _ rfl; (with_reducible repeat (first | refine blk_drewN ?_ _ | refine blk_drew ?_ | refine blk_alloc ?_ _)); refine blk_put (cs := #[.int .u8 4, .string (⟨#[]⟩ : ByteArray), .slice none 0 0]) ?_ 1 _ rfl; (with_reducible repeat (first | refine blk_drewN ?_ _ | refine blk_drew ?_ | refine blk_alloc ?_ _)); refine blk_put (cs := #[.int .u8 0, .string (⟨#[]⟩ : ByteArray), .slice none 0 0]) ?_ 0 _ rfl; (with_reducible repeat (first | refine blk_drewN ?_ _ | refine blk_drew ?_ | refine blk_alloc ?_ _)); exact BK115.out) Tryd.underlying27 rfl (by kernel_rfl)) rfl ?_
     exact ⟨_, by first | rfl | (simp [errW_none, errW_some] <;> rfl) | (simp [*, errW_none, errW_some] <;> rfl), by (with_reducible repeat (first | apply Kd.R_alloc | apply Kd.R_drewN | apply Kd.R_drew)); exact Kd.R_mono (Kd.R_far (p := ⟨gb115, 2, none⟩) (Kd.R_far (p := ⟨gb115, 1, none⟩) (Kd.R_far (p := ⟨gb115, 0, none⟩) (Kd.R_types HO119.out BK115.out (by decide)) (fun _ hk => hk.2) (.int .u8 4)) (fun _ hk => hk.2) (.string a0)) (fun _ hk => hk.2) (.slice Ao23 y117.length co23)) (fun _ hk => trivial), by repeat (first | (with_reducible first | exact HB.out | apply below_alloc | apply pw_below_drewN | apply below_drew1 | refine below_set ?_ GE114.out | refine below_set ?_ GE115.out | refine below_set ?_ GE116.out) | exact HB.out)⟩
    ·replace c20 := Bool.eq_false_iff.mpr c20
     subst c20
     have H1 : (some (0, (⟨#[]⟩ : ByteArray), ([] : List (S49)), 4)) = some (r1, r2, r3, r4) := by rw [if_neg (show ¬ (false = true) by decide)] at H; exact H
     clear H
     have H := H1
     clear H1
     simp only [Option.some.injEq, Prod.mk.injEq] at H
     obtain ⟨rfl, rfl, rfl, rfl⟩ := H
     go_wp2_with (first | ((with_reducible refine gate_dst (N := 17) rfl ?_); refine Kd.R_lit k49 _ 49 ?hg (N := 17) ?hd (xs := ([(⟨(⟨#[78, 79, 84, 73, 70, 89]⟩ : ByteArray), (⟨#[78, 69, 86, 69, 82]⟩ : ByteArray)⟩ : S49)] : List (S49))) (inner := [.string (⟨#[78, 79, 84, 73, 70, 89]⟩ : ByteArray), .string (⟨#[78, 69, 86, 69, 82]⟩ : ByteArray)]) (ok := fun _ => True) (okp := fun _ => True) ?hr ?hp (fun _ hk => hk) trivial (Below.refl _ _) (Nat.le_refl _) (by simp) ?_; (case hd => rfl); (case hg => rfl); (case hr => first | (go_simp; done) | (go_simp; rfl)); (case hp => exact (Reps.c2 (show Kd.M k49 _ _ _ (⟨(⟨#[78, 79, 84, 73, 70, 89]⟩ : ByteArray), (⟨#[78, 69, 86, 69, 82]⟩ : ByteArray)⟩ : S49) [.string (⟨#[78, 79, 84, 73, 70, 89]⟩ : ByteArray), .string (⟨#[78, 69, 86, 69, 82]⟩ : ByteArray)] from (k49_mkM _ _ _ (⟨(⟨#[78, 79, 84, 73, 70, 89]⟩ : ByteArray), (⟨#[78, 69, 86, 69, 82]⟩ : ByteArray)⟩ : S49) )) (Reps.none _ _))); intro v118 w31 ho32 hb hg_ hnew_; clear hg_ hnew_; (first | rw [← Ny117.out] at ho32 | (simp only [Int.reduceToNat] at ho32; rw [← Ny117.out] at ho32)); have n0_ := Aside0.mk (Kd.R_lower ho32 (below_size (by repeat (first | (with_reducible first | exact HB.out | apply below_alloc | apply pw_below_drewN | apply below_drew1 | refine below_set ?_ GE114.out | refine below_set ?_ GE115.out | refine below_set ?_ GE116.out) | exact HB.out)))); have n1_ := Aside0.mk (blk_below (g := gb114) (o := .cells #[.bool a1_0, .bool a1_1, .bool a1_2, .bool a1_3, .bool a1_4, .bool a1_5, .int .i64 a1_6] 23 (0, 0)) (by (with_reducible repeat (first | refine blk_drewN ?_ _ | refine blk_drew ?_ | refine blk_alloc ?_ _)); exact BK114.out) hb); have n2_ := Aside0.mk (blk_below (g := gb115) (o := .cells #[.int .u8 0, .string (⟨#[]⟩ : ByteArray), .slice none 0 0] 27 (0, 0)) (by (with_reducible repeat (first | refine blk_drewN ?_ _ | refine blk_drew ?_ | refine blk_alloc ?_ _)); exact BK115.out) hb); have n3_ := Aside0.mk (blk_below (g := gb116) (o := .cells #[.int .u8 4, .string a0, .slice none 0 0] 27 (0, 0)) (by (with_reducible repeat (first | refine blk_drewN ?_ _ | refine blk_drew ?_ | refine blk_alloc ?_ _)); exact BK116.out) hb); have n4_ := Aside0.mk (below_step (by repeat (first | (with_reducible first | exact HB.out | apply below_alloc | apply pw_below_drewN | apply below_drew1 | refine below_set ?_ GE114.out | refine below_set ?_ GE115.out | refine below_set ?_ GE116.out) | exact HB.out)) hb); clear BK114; clear BK115; clear BK116; clear HB; have HO119 := n0_; have BK114 := n1_; have BK115 := n2_; have BK116 := n3_; have HB := n4_; clear n0_ n1_ n2_ n3_ n4_; clear hb ho32; obtain ⟨Ao33, co33, eo33⟩ := Kd.R_slice HO119.out; subst eo33; have hnb34 := NB116_114.out; have hnc34 := NB114_116.out; have hnb35 := NB116_115.out; have hnc35 := NB115_116.out; have hcz36_0 : w31.cell? ⟨gb116, 0, none⟩ = some (.int .u8 4) := (blk_cell BK116.out 0).trans rfl; have hcz36_1 : w31.cell? ⟨gb116, 1, none⟩ = some (.string a0) := (blk_cell BK116.out 1).trans rfl; have hcz36_2 : w31.cell? ⟨gb116, 2, none⟩ = some (.slice none 0 0) := (blk_cell BK116.out 2).trans rfl; have hfz36_0 := blk_frozen BK116.out 0; have hfz36_1 := blk_frozen BK116.out 1; have hfz36_2 := blk_frozen BK116.out 2) | ((with_reducible refine gate_callee (f := 17) rfl ?_); refine goesL_ (some 20) rfl rfl Tryd.func17 (by kernel_rfl) rfl #[.agg #[.int .u8 4, .string a0, .slice Ao33 y117.length co33]] rfl (by (try simp only [List.map_toArray, List.map_cons, List.map_nil]); first | done | rfl | (simp only [List.length_drop, List.length_take]; rfl)) ?_; (with_reducible refine (cmd_May.calls kj3 4 a0 _ _ y117 false _ ?side1 ?side2 A19.out).mono ?_); (case side1 => refine (Kd.R_reads' (e := 49) (base := w.heap.size) (ok := fun k_ => True) (n := y117.length) (c := co33) ?_).2.2; exact (by (with_reducible repeat (first | apply Kd.R_alloc | apply Kd.R_drewN | apply Kd.R_drew)); exact (Kd.R_mono (Kd.R_far (p := ⟨gb116, 2, none⟩) (Kd.R_types HO119.out BK116.out (by decide)) (fun _ hk => hk.2) (.slice Ao33 y117.length co33)) (fun _ h_ => h_.1)))); (case side2 => exact (Kd.R_reads' HO119.out).2.1); rintro e w37 ⟨rfl, hb⟩; refine ⟨_, rfl, ?_⟩; have n0_ := Aside0.mk (Kd.R_below (by (with_reducible repeat (first | apply Kd.R_alloc | apply Kd.R_drewN | apply Kd.R_drew)); exact (Kd.R_mono (Kd.R_far (p := ⟨gb116, 2, none⟩) (Kd.R_types HO119.out BK116.out (by decide)) (fun _ hk => hk.2) (.slice Ao33 y117.length co33)) (fun _ h_ => h_.1))) hb); have n1_ := Aside0.mk (blk_below (g := gb114) (o := .cells #[.bool a1_0, .bool a1_1, .bool a1_2, .bool a1_3, .bool a1_4, .bool a1_5, .int .i64 a1_6] 23 (0, 0)) (by (with_reducible repeat (first | refine blk_drewN ?_ _ | refine blk_drew ?_ | refine blk_alloc ?_ _)); refine blk_far ?_ NB114_116.out _; (with_reducible repeat (first | refine blk_drewN ?_ _ | refine blk_drew ?_ | refine blk_alloc ?_ _)); exact BK114.out) hb); have n2_ := Aside0.mk (blk_below (g := gb115) (o := .cells #[.int .u8 0, .string (⟨#[]⟩ : ByteArray), .slice none 0 0] 27 (0, 0)) (by (with_reducible repeat (first | refine blk_drewN ?_ _ | refine blk_drew ?_ | refine blk_alloc ?_ _)); refine blk_far ?_ NB115_116.out _; (with_reducible repeat (first | refine blk_drewN ?_ _ | refine blk_drew ?_ | refine blk_alloc ?_ _)); exact BK115.out) hb); have n3_ := Aside0.mk (blk_below (g := gb116) (o := .cells #[.int .u8 4, .string a0, .slice Ao33 y117.length co33] 27 (0, 0)) (by (with_reducible repeat (first | refine blk_drewN ?_ _ | refine blk_drew ?_ | refine blk_alloc ?_ _)); refine blk_put (cs := #[.int .u8 4, .string a0, .slice none 0 0]) ?_ 2 _ rfl; (with_reducible repeat (first | refine blk_drewN ?_ _ | refine blk_drew ?_ | refine blk_alloc ?_ _)); exact BK116.out) hb); have n4_ := Aside0.mk (below_step (by repeat (first | (with_reducible first | exact HB.out | apply below_alloc | apply pw_below_drewN | apply below_drew1 | refine below_set ?_ GE114.out | refine below_set ?_ GE115.out | refine below_set ?_ GE116.out) | exact HB.out)) hb); clear HO119; clear BK114; clear BK115; clear BK116; clear HB; have HO119 := n0_; have BK114 := n1_; have BK115 := n2_; have BK116 := n3_; have HB := n4_; clear n0_ n1_ n2_ n3_ n4_; (try clear hb); (try clear hb2); (try clear hk); (try clear hi); have hnb38 := NB115_114.out; have hnc38 := NB114_115.out; have hcz39_0 : w37.cell? ⟨gb115, 0, none⟩ = some (.int .u8 0) := (blk_cell BK115.out 0).trans rfl; have hcz39_1 : w37.cell? ⟨gb115, 1, none⟩ = some (.string (⟨#[]⟩ : ByteArray)) := (blk_cell BK115.out 1).trans rfl; have hcz39_2 : w37.cell? ⟨gb115, 2, none⟩ = some (.slice none 0 0) := (blk_cell BK115.out 2).trans rfl; have hfz39_0 := blk_frozen BK115.out 0; have hfz39_1 := blk_frozen BK115.out 1; have hfz39_2 := blk_frozen BK115.out 2))
     refine bodyPost_ret (results_ct rfl _ _ gb115 27 #[.int .u8 0, .string (⟨#[]⟩ : ByteArray), .slice none 0 0] (0, 0) _ rfl (by (with_reducible repeat (first | refine blk_drewN ?_ _ | refine blk_drew ?_ | refine blk_alloc ?_ _)); refine blk_put (cs := #[.int .u8 0, .string (⟨#[]⟩ : ByteArray), .slice none 0 0]) ?_ 2 _ rfl; (with_reducible repeat (first | refine blk_drewN ?_ _ | refine blk_drew ?_ | refine blk_alloc ?_ _)); refine blk_put (cs := #[.int .u8 0, .string (⟨#[]⟩ : ByteArray), .slice none 0 0]) ?_ 1 _ rfl; (with_reducible repeat (first | refine blk_drewN ?_ _ | refine blk_drew ?_ | refine blk_alloc ?_ _)); refine blk_put (cs := #[.int .u8 0, .string (⟨#[]⟩ : ByteArray), .slice none 0 0]) ?_ 0 _ rfl; (with_reducible repeat (first | refine blk_drewN ?_ _ | refine blk_drew ?_ | refine blk_alloc ?_ _)); exact BK115.out) Tryd.underlying27 rfl (by kernel_rfl)) rfl ?_
     exact ⟨_, by first | rfl | (simp [errW_none, errW_some] <;> rfl) | (simp [*, errW_none, errW_some] <;> rfl), by first | exact Kd.R_nil _ _ _ _ _ | exact Kd.N_nil _ _ _ _ _ | exact Kd.V_nil _ _ _ _ _ | exact Kd.Q_nil _ _ _ _ _ | exact Kd.S_nil _ _ _ _ _, by repeat (first | (with_reducible first | exact HB.out | apply below_alloc | apply pw_below_drewN | apply below_drew1 | refine below_set ?_ GE114.out | refine below_set ?_ GE115.out | refine below_set ?_ GE116.out) | exact HB.out)⟩
   ·replace c18 := Bool.eq_false_iff.mpr c18
    subst c18
    have H1 : ((cmd_May.f kj3 4 a0 ([] : List (S49))).bind fun t121 => (if t121 = true then (some (4, a0, ([] : List (S49)), 0)) else (some (0, (⟨#[]⟩ : ByteArray), ([] : List (S49)), 4)))) = some (r1, r2, r3, r4) := by rw [if_neg (show ¬ (false = true) by decide)] at H; exact H
    clear H
    have H := H1
    clear H1
    replace H := Option.bind_eq_some_iff.mp H
    obtain ⟨t121, A400, H⟩ := H
    replace H : (if t121 = true then (some (4, a0, ([] : List (S49)), 0)) else (some (0, (⟨#[]⟩ : ByteArray), ([] : List (S49)), 4))) = some (r1, r2, r3, r4) := H
    have A40 := Aside0.mk A400
    clear A400
    by_cases c41 : t121 = true
    ·subst c41
     have H1 : (some (4, a0, ([] : List (S49)), 0)) = some (r1, r2, r3, r4) := by rw [if_pos rfl] at H; exact H
     clear H
     have H := H1
     clear H1
     simp only [Option.some.injEq, Prod.mk.injEq] at H
     obtain ⟨rfl, rfl, rfl, rfl⟩ := H
     have hnb42 := NB116_114.out
     have hnc42 := NB114_116.out
     have hnb43 := NB116_115.out
     have hnc43 := NB115_116.out
     have hcz44_0 : wc.cell? ⟨gb116, 0, none⟩ = some (.int .u8 4) := (blk_cell BK116.out 0).trans rfl
     have hcz44_1 : wc.cell? ⟨gb116, 1, none⟩ = some (.string a0) := (blk_cell BK116.out 1).trans rfl
     have hcz44_2 : wc.cell? ⟨gb116, 2, none⟩ = some (.slice none 0 0) := (blk_cell BK116.out 2).trans rfl
     have hfz44_0 := blk_frozen BK116.out 0
     have hfz44_1 := blk_frozen BK116.out 1
     have hfz44_2 := blk_frozen BK116.out 2
     go_wp2_with (first | ((with_reducible refine gate_callee (f := 17) rfl ?_); refine goesL_ (some 20) rfl rfl Tryd.func17 (by kernel_rfl) rfl #[.agg #[.int .u8 4, .string a0, .slice none 0 0]] rfl (by (try simp only [List.map_toArray, List.map_cons, List.map_nil]); first | done | rfl | (simp only [List.length_drop, List.length_take]; rfl)) ?_; (refine (cmd_May.calls kj3 4 a0 _ _ ([] : List (S49)) true _ ?side1 ?side2 A40.out).mono ?_); (case side1 => exact Kd.C_nil _ _); (case side2 => exact Nat.le_refl _); rintro e w45 ⟨rfl, hb⟩; refine ⟨_, rfl, ?_⟩; have n0_ := Aside0.mk (blk_below (g := gb114) (o := .cells #[.bool a1_0, .bool a1_1, .bool a1_2, .bool a1_3, .bool a1_4, .bool a1_5, .int .i64 a1_6] 23 (0, 0)) (by (with_reducible repeat (first | refine blk_drewN ?_ _ | refine blk_drew ?_ | refine blk_alloc ?_ _)); exact BK114.out) hb); have n1_ := Aside0.mk (blk_below (g := gb115) (o := .cells #[.int .u8 0, .string (⟨#[]⟩ : ByteArray), .slice none 0 0] 27 (0, 0)) (by (with_reducible repeat (first | refine blk_drewN ?_ _ | refine blk_drew ?_ | refine blk_alloc ?_ _)); exact BK115.out) hb); have n2_ := Aside0.mk (blk_below (g := gb116) (o := .cells #[.int .u8 4, .string a0, .slice none 0 0] 27 (0, 0)) (by (with_reducible repeat (first | refine blk_drewN ?_ _ | refine blk_drew ?_ | refine blk_alloc ?_ _)); exact BK116.out) hb); have n3_ := Aside0.mk (below_step (by repeat (first | (with_reducible first | exact HB.out | apply below_alloc | apply pw_below_drewN | apply below_drew1 | refine below_set ?_ GE114.out | refine below_set ?_ GE115.out | refine below_set ?_ GE116.out) | exact HB.out)) hb); clear BK114; clear BK115; clear BK116; clear HB; have BK114 := n0_; have BK115 := n1_; have BK116 := n2_; have HB := n3_; clear n0_ n1_ n2_ n3_; (try clear hb); (try clear hb2); (try clear hk); (try clear hi); have hcz46_0 : w45.cell? ⟨gb116, 0, none⟩ = some (.int .u8 4) := (blk_cell BK116.out 0).trans rfl; have hcz46_1 : w45.cell? ⟨gb116, 1, none⟩ = some (.string a0) := (blk_cell BK116.out 1).trans rfl; have hcz46_2 : w45.cell? ⟨gb116, 2, none⟩ = some (.slice none 0 0) := (blk_cell BK116.out 2).trans rfl; have hfz46_0 := blk_frozen BK116.out 0; have hfz46_1 := blk_frozen BK116.out 1; have hfz46_2 := blk_frozen BK116.out 2; have hnb47 := NB115_114.out; have hnc47 := NB114_115.out; have hcz48_0 : w45.cell? ⟨gb115, 0, none⟩ = some (.int .u8 0) := (blk_cell BK115.out 0).trans rfl; have hcz48_1 : w45.cell? ⟨gb115, 1, none⟩ = some (.string (⟨#[]⟩ : ByteArray)) := (blk_cell BK115.out 1).trans rfl; have hcz48_2 : w45.cell? ⟨gb115, 2, none⟩ = some (.slice none 0 0) := (blk_cell BK115.out 2).trans rfl; have hfz48_0 := blk_frozen BK115.out 0; have hfz48_1 := blk_frozen BK115.out 1; have hfz48_2 := blk_frozen BK115.out 2))
     refine bodyPost_ret (results_ct rfl _ _ gb115 27 #[.int .u8 4, .string a0, .slice none 0 0] (0, 0) _ rfl (by (with_reducible repeat (first | refine blk_drewN ?_ _ | refine blk_drew ?_ | refine blk_alloc ?_ _)); refine blk_put (cs := #[.int .u8 4, .string a0, .slice none 0 0]) ?_ 2 _ rfl; (with_reducible repeat (first | refine blk_drewN ?_ _ | refine blk_drew ?_ | refine blk_alloc ?_ _)); refine blk_put (cs := #[.int .u8 4, .string (⟨#[]⟩ : ByteArray), .slice none 0 0]) ?_ 1 _ rfl; (with_reducible repeat (first | refine blk_drewN ?_ _ | refine blk_drew ?_ | refine blk_alloc ?_ _)); refine blk_put (cs := #[.int .u8 0, .string (⟨#[]⟩ : ByteArray), .slice none 0 0]) ?_ 0 _ rfl; (with_reducible repeat (first | refine blk_drewN ?_ _ | refine blk_drew ?_ | refine blk_alloc ?_ _)); exact BK115.out) Tryd.underlying27 rfl (by kernel_rfl)) rfl ?_
     exact ⟨_, by first | rfl | (simp [errW_none, errW_some] <;> rfl) | (simp [*, errW_none, errW_some] <;> rfl), by first | exact Kd.R_nil _ _ _ _ _ | exact Kd.N_nil _ _ _ _ _ | exact Kd.V_nil _ _ _ _ _ | exact Kd.Q_nil _ _ _ _ _ | exact Kd.S_nil _ _ _ _ _, by repeat (first | (with_reducible first | exact HB.out | apply below_alloc | apply pw_below_drewN | apply below_drew1 | refine below_set ?_ GE114.out | refine below_set ?_ GE115.out | refine below_set ?_ GE116.out) | exact HB.out)⟩
    ·replace c41 := Bool.eq_false_iff.mpr c41
     subst c41
     have H1 : (some (0, (⟨#[]⟩ : ByteArray), ([] : List (S49)), 4)) = some (r1, r2, r3, r4) := by rw [if_neg (show ¬ (false = true) by decide)] at H; exact H
     clear H
     have H := H1
     clear H1
     simp only [Option.some.injEq, Prod.mk.injEq] at H
     obtain ⟨rfl, rfl, rfl, rfl⟩ := H
     have hnb49 := NB116_114.out
     have hnc49 := NB114_116.out
     have hnb50 := NB116_115.out
     have hnc50 := NB115_116.out
     have hcz51_0 : wc.cell? ⟨gb116, 0, none⟩ = some (.int .u8 4) := (blk_cell BK116.out 0).trans rfl
     have hcz51_1 : wc.cell? ⟨gb116, 1, none⟩ = some (.string a0) := (blk_cell BK116.out 1).trans rfl
     have hcz51_2 : wc.cell? ⟨gb116, 2, none⟩ = some (.slice none 0 0) := (blk_cell BK116.out 2).trans rfl
     have hfz51_0 := blk_frozen BK116.out 0
     have hfz51_1 := blk_frozen BK116.out 1
     have hfz51_2 := blk_frozen BK116.out 2
     go_wp2_with (first | ((with_reducible refine gate_callee (f := 17) rfl ?_); refine goesL_ (some 20) rfl rfl Tryd.func17 (by kernel_rfl) rfl #[.agg #[.int .u8 4, .string a0, .slice none 0 0]] rfl (by (try simp only [List.map_toArray, List.map_cons, List.map_nil]); first | done | rfl | (simp only [List.length_drop, List.length_take]; rfl)) ?_; (refine (cmd_May.calls kj3 4 a0 _ _ ([] : List (S49)) false _ ?side1 ?side2 A40.out).mono ?_); (case side1 => exact Kd.C_nil _ _); (case side2 => exact Nat.le_refl _); rintro e w52 ⟨rfl, hb⟩; refine ⟨_, rfl, ?_⟩; have n0_ := Aside0.mk (blk_below (g := gb114) (o := .cells #[.bool a1_0, .bool a1_1, .bool a1_2, .bool a1_3, .bool a1_4, .bool a1_5, .int .i64 a1_6] 23 (0, 0)) (by (with_reducible repeat (first | refine blk_drewN ?_ _ | refine blk_drew ?_ | refine blk_alloc ?_ _)); exact BK114.out) hb); have n1_ := Aside0.mk (blk_below (g := gb115) (o := .cells #[.int .u8 0, .string (⟨#[]⟩ : ByteArray), .slice none 0 0] 27 (0, 0)) (by (with_reducible repeat (first | refine blk_drewN ?_ _ | refine blk_drew ?_ | refine blk_alloc ?_ _)); exact BK115.out) hb); have n2_ := Aside0.mk (blk_below (g := gb116) (o := .cells #[.int .u8 4, .string a0, .slice none 0 0] 27 (0, 0)) (by (with_reducible repeat (first | refine blk_drewN ?_ _ | refine blk_drew ?_ | refine blk_alloc ?_ _)); exact BK116.out) hb); have n3_ := Aside0.mk (below_step (by repeat (first | (with_reducible first | exact HB.out | apply below_alloc | apply pw_below_drewN | apply below_drew1 | refine below_set ?_ GE114.out | refine below_set ?_ GE115.out | refine below_set ?_ GE116.out) | exact HB.out)) hb); clear BK114; clear BK115; clear BK116; clear HB; have BK114 := n0_; have BK115 := n1_; have BK116 := n2_; have HB := n3_; clear n0_ n1_ n2_ n3_; (try clear hb); (try clear hb2); (try clear hk); (try clear hi); have hnb53 := NB115_114.out; have hnc53 := NB114_115.out; have hcz54_0 : w52.cell? ⟨gb115, 0, none⟩ = some (.int .u8 0) := (blk_cell BK115.out 0).trans rfl; have hcz54_1 : w52.cell? ⟨gb115, 1, none⟩ = some (.string (⟨#[]⟩ : ByteArray)) := (blk_cell BK115.out 1).trans rfl; have hcz54_2 : w52.cell? ⟨gb115, 2, none⟩ = some (.slice none 0 0) := (blk_cell BK115.out 2).trans rfl; have hfz54_0 := blk_frozen BK115.out 0; have hfz54_1 := blk_frozen BK115.out 1; have hfz54_2 := blk_frozen BK115.out 2))
     refine bodyPost_ret (results_ct rfl _ _ gb115 27 #[.int .u8 0, .string (⟨#[]⟩ : ByteArray), .slice none 0 0] (0, 0) _ rfl (by (with_reducible repeat (first | refine blk_drewN ?_ _ | refine blk_drew ?_ | refine blk_alloc ?_ _)); refine blk_put (cs := #[.int .u8 0, .string (⟨#[]⟩ : ByteArray), .slice none 0 0]) ?_ 2 _ rfl; (with_reducible repeat (first | refine blk_drewN ?_ _ | refine blk_drew ?_ | refine blk_alloc ?_ _)); refine blk_put (cs := #[.int .u8 0, .string (⟨#[]⟩ : ByteArray), .slice none 0 0]) ?_ 1 _ rfl; (with_reducible repeat (first | refine blk_drewN ?_ _ | refine blk_drew ?_ | refine blk_alloc ?_ _)); refine blk_put (cs := #[.int .u8 0, .string (⟨#[]⟩ : ByteArray), .slice none 0 0]) ?_ 0 _ rfl; (with_reducible repeat (first | refine blk_drewN ?_ _ | refine blk_drew ?_ | refine blk_alloc ?_ _)); exact BK115.out) Tryd.underlying27 rfl (by kernel_rfl)) rfl ?_
     exact ⟨_, by first | rfl | (simp [errW_none, errW_some] <;> rfl) | (simp [*, errW_none, errW_some] <;> rfl), by first | exact Kd.R_nil _ _ _ _ _ | exact Kd.N_nil _ _ _ _ _ | exact Kd.V_nil _ _ _ _ _ | exact Kd.Q_nil _ _ _ _ _ | exact Kd.S_nil _ _ _ _ _, by repeat (first | (with_reducible first | exact HB.out | apply below_alloc | apply pw_below_drewN | apply below_drew1 | refine below_set ?_ GE114.out | refine below_set ?_ GE115.out | refine below_set ?_ GE116.out) | exact HB.out)⟩
end Go.Proofs.YtljkopbalejcgaaDoor.P
end
section
namespace Go.Proofs.YtljkopbalejcgaaDoor.P
open Go.RowKit Go.Proofs.YtljkopbalejcgaaDoorW.PrintWords Go.Proofs.YtljkopbalejcgaaDoorW.PrintLast Go.Proofs.YtljkopbalejcgaaDoorW.PrintMore
attribute [local go_sem] max2_int min2_int max_two min_two max_three min_three max_four min_four
set_option linter.unusedVariables false
set_option linter.unusedSimpArgs false
open Go Go.Lib
def CmdAt (base g : Nat) (vb : Int) (a : ByteArray) (u : Value) (xs : List S49) (W : World) : Prop :=
 Kd.R k49 49 W base (fun _ => True) u xs ∧ W.heap[g]? = some (.cells #[.int .u8 vb, .string a, u] 27 (0, 0))
def KeepT (g : Nat) (W W' : World) : Prop := ∀ k cs t, W.heap[k]? = some (.cells cs t (0, 0)) → t ≠ 49 → k ≠ g → W'.heap[k]? = some (.cells cs t (0, 0))
set_option maxHeartbeats 1000000 in
theorem mail1_calls (w0 W : World) (base g : Nat) (hbase : base ≤ W.heap.size) (o q : Bool) (n v a : ByteArray) (vb : Int) (u : Value) (xs : List S49) (hl : xs.length ≤ 1000000) (hg : base ≤ g)
  (hC : CmdAt base g vb a u xs W) (HB0 : Below base w0 W) :
  Calls Tryd.prog 22 (#[.bool o, .bool q, .string n, .string v] ++ #[.pointer (some ⟨g, 0, none⟩)]) W fun e W' => e = .returned (.tuple #[]) ∧ (∃ u', CmdAt base g vb a u' (if (o && q) = true then xs ++ [⟨n, v⟩] else xs) W') ∧ Below base w0 W' ∧ KeepT g W W' := by
 have HC := Aside0.mk hC
 have HB := Aside0.mk HB0
 clear HB0
 obtain ⟨hR, hk⟩ := hC
 obtain ⟨Ao, co, rfl⟩ := Kd.R_slice hR
 have HR := Aside0.mk hR
 have HK := Aside0.mk hk
 have hc2 : W.cell? ⟨g, 2, none⟩ = some (.slice Ao xs.length co) := (blk_cell hk 2).trans rfl
 have hf2 := blk_frozen hk 2
 have HNE := Aside0.mk (Kd.R_types HR.out HK.out (by decide)).1
 clear hR hk
 cases o with
 | false =>
  go_enter Tryd.func22, Tryd.ntmps22
  go_wp2
  refine bodyPost_end (v := .tuple #[]) (results_none rfl _ _ _) rfl ?_
  exact ⟨rfl, ⟨_, HC.out⟩, HB.out, fun k cs t h _ _ => h⟩
 | true =>
  cases q with
  | false =>
   go_enter Tryd.func22, Tryd.ntmps22
   go_wp2
   refine bodyPost_end (v := .tuple #[]) (results_none rfl _ _ _) rfl ?_
   exact ⟨rfl, ⟨_, HC.out⟩, HB.out, fun k cs t h _ _ => h⟩
  | true =>
   go_enter Tryd.func22, Tryd.ntmps22
   go_wp2_with (at_builtin; refine Kd.R_append k49 (w0 := w0) base rfl (.tmp 14) (.tmp 18) 25 49 (.agg #[(.string ⟨#[]⟩), (.string ⟨#[]⟩)]) 32 rfl Tryd.underlying25 info49 rfl (by decide) (by omega) (.slice Ao xs.length co) xs ⟨n, v⟩ [.string n, .string v] (fun _ => True) (fun _ => False) rfl rfl ?aP (fun _ hk => hk.elim) ?aF ?aO ?aB ?aS ?aL ?_; (case aP => exact k49_mkM _ _ _ _); (case aF => exact fun _ _ => trivial); (case aO => exact HR.out); (case aB => exact HB.out); (case aS => exact hbase); (case aL => omega); intro v1 W1 ho hb hgr hat; obtain ⟨A1, c1, rfl⟩ := Kd.R_slice ho; have hk1 := blk_grown HK.out hgr (fun e => (HNE.out _ e.symm).2 rfl); have hc1 : W1.cell? ⟨g, 2, none⟩ = some (.slice Ao xs.length co) := (blk_cell hk1 2).trans rfl; have hf1 := blk_frozen hk1 2; have HK1 := Aside0.mk hk1; have HO := Aside0.mk ho; have HB1 := Aside0.mk hb; have HGR := Aside0.mk hgr; clear hk1 ho hb hgr hat)
   refine bodyPost_end (v := .tuple #[]) (results_none rfl _ _ _) rfl ?_
   have ho := HO.out
   rw [show (xs ++ [(⟨n, v⟩ : S49)]).length = xs.length + 1 from by simp] at ho
   refine ⟨rfl, ⟨.slice A1 (xs.length + 1) c1, Kd.R_set ho HK1.out (by decide) 2 _, blk_put HK1.out 2 _ rfl⟩, HB1.out.setCell (p := ⟨g, 2, none⟩) hg _, fun k cs t hk ht hkg => ?_⟩
   have hne := (Kd.R_types HR.out hk (by intro q hq; have hq' : q ∈ [49] := hq; simp at hq'; subst hq'; exact fun e => ht e.symm)).1
   exact (Below.heap_setCell W1 ⟨g, 2, none⟩ _ k hkg).trans (blk_grown hk HGR.out (fun e => (hne _ e.symm).2 rfl))
def idByte (c : UInt8) : Bool := (decide (97 ≤ c) && decide (c ≤ 122)) || (decide (65 ≤ c) && decide (c ≤ 90)) || (decide (48 ≤ c) && decide (c ≤ 57)) || c == 45
theorem idByte_int (c : UInt8) : idByte c = ((decide ((97 : Int) ≤ (c.toNat : Int)) && decide ((c.toNat : Int) ≤ 122)) || (decide ((65 : Int) ≤ (c.toNat : Int)) && decide ((c.toNat : Int) ≤ 90)) || (decide ((48 : Int) ≤ (c.toNat : Int)) && decide ((c.toNat : Int) ≤ 57)) || ((c.toNat : Int) == 45)) := by
 unfold idByte; rw [u8_beq c 45, Bool.eq_iff_iff]; simp [UInt8.le_iff_toNat_le]; omega
set_option maxHeartbeats 1000000 in
theorem mail2_calls (c : UInt8) (w : World) : Calls Tryd.prog 25 (#[.int .u8 c.toNat] ++ #[]) w fun e w' => e = .returned (.bool (!idByte c)) ∧ w' = w := by
 have hb : 0 ≤ (c.toNat : Int) ∧ (c.toNat : Int) ≤ 255 := by have := c.toNat_lt; omega
 have HE := Lib.hid (idByte_int c)
 go_enter Tryd.func25, Tryd.ntmps25
 go_wp2
 all_goals
  go_ret
  refine ⟨congrArg (fun b => Ending.returned (.bool b)) ?_, rfl⟩
  rw [HE.out, Bool.eq_iff_iff] <;> simp <;> omega
def mailRow (c5 c2 c3 rq : Bool) (n id : ByteArray) : List S49 :=
 let x0 : List S49 := if (c5 && true) = true then [] ++ [⟨⟨#[83, 73, 90, 69]⟩, n⟩] else []
 let x1 : List S49 := if (c2 && rq) = true then x0 ++ [⟨⟨#[82, 69, 81, 85, 73, 82, 69, 84, 76, 83]⟩, ⟨#[]⟩⟩] else x0
 if (c3 && (!id.toList.isEmpty)) = true then x1 ++ [⟨⟨#[69, 78, 86, 73, 68]⟩, id⟩] else x1
theorem CmdAt.below {base g : Nat} {vb : Int} {a : ByteArray} {u : Value} {xs : List S49} {W W' : World} (h : CmdAt base g vb a u xs W) (hb : Below W.heap.size W W') : CmdAt base g vb a u xs W' := ⟨Kd.R_below h.1 hb, blk_below h.2 hb⟩
theorem CmdAt.drewN {base g : Nat} {vb : Int} {a : ByteArray} {u : Value} {xs : List S49} {W : World} (h : CmdAt base g vb a u xs W) (n : Nat) : CmdAt base g vb a u xs (W.drewN n) := h.below (pw_below_drewN (Below.refl _ _) n)
theorem CmdAt.drew {base g : Nat} {vb : Int} {a : ByteArray} {u : Value} {xs : List S49} {W : World} (h : CmdAt base g vb a u xs W) : CmdAt base g vb a u xs W.drew := h.below (below_drew1 (Below.refl _ _))
theorem GL.drew {W : World} (h : GL W) : GL W.drew := h.of_below (below_drew1 (Below.refl _ _))
theorem GL.drewN {W : World} (h : GL W) (n : Nat) : GL (W.drewN n) := h.of_below (pw_below_drewN (Below.refl _ _) n)
theorem cont_any (g : Nat) (eg : ∀ args w, (callFunc g args).run Tryd.prog w = .ok (.enter g args) w) (p : UInt8 → Bool) (hcl : ∀ c W, Calls Tryd.prog g (#[.int .u8 c.toNat] ++ #[]) W fun e W' => e = .returned (.bool (!p c)) ∧ W' = W)
  (v : ByteArray) (hv : v.size ≤ 140737488351232) (W1 : World) (cap : Nat) :
  Calls Tryd.prog 24 #[.slice (some ⟨W1.heap.size, 0, none⟩) v.size cap, .func (.func g) #[] #[]] (bytesWorld W1 5 v) fun e w' => e = .returned (.bool (!v.data.toList.all p)) ∧ Below W1.heap.size W1 w' := by
 have hrow := brow_conv W1 5 v
 have hbel := below_conv W1 5 v
 have hsz := bytesWorld_size W1 5 v
 generalize bytesWorld W1 5 v = W2 at hrow hbel hsz
 refine (has_byte g #[] eg v.size W1.heap.size cap (fun j => .int .u8 (v.data.toList.getD j 0).toNat) (fun j => !p (v.data.toList.getD j 0)) W2 hv (by omega) ?_ ?_).mono ?_
 ·intro j hj
  have hj' : j < v.data.toList.length := by rw [len_eq]; exact hj
  rw [(hrow j hj').1, getD_at _ j hj']
 ·intro j hj W hW
  exact (hcl _ W).mono fun e W' ⟨he, hw⟩ => ⟨he, by rw [hw]; exact hW⟩
 ·rintro e w' ⟨rfl, hb⟩
  refine ⟨congrArg (fun b => Ending.returned (.bool b)) ?_, below_then hbel hbel.size hb⟩
  rw [Bool.eq_iff_iff]
  simp only [List.any_eq_true, Bool.not_eq_true', List.all_eq_false, List.mem_range]
  constructor
  ·rintro ⟨j, hj, h⟩
   have hj' : j < v.data.toList.length := by rw [len_eq]; exact hj
   exact ⟨v.data.toList[j], List.getElem_mem hj', by rw [getD_at _ j hj'] at h; simpa using h⟩
  ·rintro ⟨x, hx, h⟩
   obtain ⟨j, hj, rfl⟩ := List.getElem_of_mem hx
   exact ⟨j, by rw [← len_eq]; exact hj, by rw [getD_at _ j hj]; simpa using h⟩
set_option maxHeartbeats 2000000 in
set_option maxRecDepth 100000 in
theorem mail_walk (a0 : ByteArray) (b0 b1 b2 b3 b4 b5 : Bool) (b6 a2 : Int) (a3 : Bool) (a4 n : ByteArray) (w : World) (hG : GL w) (hn : code_Show.f a2 = some n) (h4 : a4.size ≤ 140737488351232) (rr : Bool) (hrr : cmd_May.f 1 3 a0 (mailRow b5 b2 b3 a3 n a4) = some rr)
  (r1 : Int) (r2 : ByteArray) (r3 : List S49) (r4 : Int) (HRES : Hid ((if (decide (a2 < 0) || !a4.data.toList.all idByte || decide (32 < (a4.size : Int)) || !rr) = true then (0, ⟨#[]⟩, [], 4) else (3, a0, mailRow b5 b2 b3 a3 n a4, 0)) = (r1, r2, r3, r4))) :
  Calls Tryd.prog 8 #[.string a0, .agg #[.bool b0, .bool b1, .bool b2, .bool b3, .bool b4, .bool b5, .int .i64 b6], .int .i64 a2, .bool a3, .string a4] w fun e w' => ∃ v2_ : Value, e = .returned (.tuple #[.agg #[.int .u8 r1, .string r2, v2_], .int .i64 r4]) ∧ Kd.R k49 49 w' w.heap.size (fun _ => True) v2_ r3 ∧ Below w.heap.size w w' := by
 obtain ⟨x0, hx0⟩ : ∃ x0 : List S49, x0 = (if (b5 && true) = true then [] ++ [⟨⟨#[83, 73, 90, 69]⟩, n⟩] else []) := ⟨_, rfl⟩
 have hl0 : x0.length ≤ 1 := by rw [hx0]; split <;> simp
 obtain ⟨x1, hx1⟩ : ∃ x1 : List S49, x1 = (if (b2 && a3) = true then x0 ++ [⟨⟨#[82, 69, 81, 85, 73, 82, 69, 84, 76, 83]⟩, ⟨#[]⟩⟩] else x0) := ⟨_, rfl⟩
 have hl1 : x1.length ≤ 2 := by
  rw [hx1]
  split
  ·rw [List.length_append]; simp; omega
  ·omega
 obtain ⟨row, hx2⟩ : ∃ x2 : List S49, x2 = (if (b3 && (!a4.toList.isEmpty)) = true then x1 ++ [⟨⟨#[69, 78, 86, 73, 68]⟩, a4⟩] else x1) := ⟨_, rfl⟩
 have hrow : mailRow b5 b2 b3 a3 n a4 = row := by rw [hx2, hx1, hx0]; rfl
 rw [hrow] at hrr HRES
 have HX0 := Aside0.mk hx0
 have HX1 := Aside0.mk hx1
 have HX2 := Aside0.mk hx2
 clear hx0 hx1 hx2 hrow
 obtain ⟨W0, hW0⟩ : ∃ W0, W0 = ((w.alloc (.cells #[.bool b0, .bool b1, .bool b2, .bool b3, .bool b4, .bool b5, .int .i64 b6] 23)).alloc (.cells #[.int .u8 0, .string ⟨#[]⟩, .slice none 0 0] 27)).alloc (.cells #[.int .u8 3, .string a0, .slice none 0 0] 27) := ⟨_, rfl⟩
 have hb0 : Below w.heap.size w W0 := by rw [hW0]; repeat (first | exact Below.refl _ _ | apply below_alloc)
 have hk6 : W0.heap[w.heap.size]? = some (.cells #[.bool b0, .bool b1, .bool b2, .bool b3, .bool b4, .bool b5, .int .i64 b6] 23 (0, 0)) := by rw [hW0]; exact blk_alloc (blk_alloc (heap_alloc_new _ _) _) _
 have hk10 : W0.heap[w.heap.size + 1]? = some (.cells #[.int .u8 0, .string ⟨#[]⟩, .slice none 0 0] 27 (0, 0)) := by rw [hW0]; exact blk_alloc (by have := heap_alloc_new (w.alloc (.cells #[.bool b0, .bool b1, .bool b2, .bool b3, .bool b4, .bool b5, .int .i64 b6] 23)) (.cells #[.int .u8 0, .string ⟨#[]⟩, .slice none 0 0] 27); rwa [World.size_alloc] at this) _
 have hk12 : W0.heap[w.heap.size + 1 + 1]? = some (.cells #[.int .u8 3, .string a0, .slice none 0 0] 27 (0, 0)) := by
  rw [hW0]
  have := heap_alloc_new ((w.alloc (.cells #[.bool b0, .bool b1, .bool b2, .bool b3, .bool b4, .bool b5, .int .i64 b6] 23)).alloc (.cells #[.int .u8 0, .string ⟨#[]⟩, .slice none 0 0] 27)) (.cells #[.int .u8 3, .string a0, .slice none 0 0] 27)
  rwa [World.size_alloc, World.size_alloc] at this
 have hat : CmdAt w.heap.size (w.heap.size + 1 + 1) 3 a0 (.slice none 0 0) [] W0 := ⟨Kd.R_nil _ _ _ _ _, hk12⟩
 have hG0 : GL W0 := hG.of_below hb0
 have hc65 : W0.cell? ⟨w.heap.size, 5, none⟩ = some (.bool b5) := blk_cell hk6 5
 have HB0 := Aside0.mk hb0
 have HK6 := Aside0.mk hk6
 have HK10 := Aside0.mk hk10
 have HAT := Aside0.mk hat
 have HG0 := Aside0.mk hG0
 have HLT : Aside0 (w.heap.size < W0.heap.size) := ⟨by rw [hW0]; simp; omega⟩
 clear hb0 hk6 hk10 hk12 hat hG0 hG
 go_enter Tryd.func8, Tryd.ntmps8
 go_wp2_with fail
 rw [← hW0]
 clear hW0
 go_region_held3 (fun W => W.cell? ⟨w.heap.size, 5, none⟩ = some (.bool b5)) (first | exact hc65 | assumption) (first
  | (go_at_call 23; refine (code_Show.calls a2 n _ hn (by first | exact HG0.out | exact HG0.out.drew | exact HG0.out.drewN _)).mono ?_; rintro e w1 ⟨rfl, hb⟩; have hc65b : w1.cell? ⟨w.heap.size, 5, none⟩ = some (.bool b5) := (hb.cell HLT.out).trans hc65; have HB1 : Aside0 (Below w.heap.size w w1) := ⟨below_step (below_drew1 HB0.out) hb⟩; have HAT1 := Aside0.mk (HAT.out.drew.below hb); have HK61 := Aside0.mk (blk_below (w := W0.drew) HK6.out hb); have HK101 := Aside0.mk (blk_below (w := W0.drew) HK10.out hb); clear hb)
  | (go_at_call 22; refine (mail1_calls w _ w.heap.size (w.heap.size + 1 + 1) HB1.out.size b5 true ⟨#[83, 73, 90, 69]⟩ n a0 3 (.slice none 0 0) [] (Nat.zero_le _) (by omega) HAT1.out HB1.out).mono ?_; rintro e w2 ⟨rfl, ⟨u1, h1⟩, h2, h3⟩; rw [← HX0.out] at h1; have HAT2 := Aside0.mk h1; have HB2 := Aside0.mk h2; have hk62 := h3 _ _ _ HK61.out (by decide) (by omega); have HK62 := Aside0.mk hk62; have HK102 := Aside0.mk (h3 _ _ _ HK101.out (by decide) (by omega)); have hc65c : w2.cell? ⟨w.heap.size, 5, none⟩ = some (.bool b5) := blk_cell hk62 5; have hc62 : w2.cell? ⟨w.heap.size, 2, none⟩ = some (.bool b2) := blk_cell hk62 2; clear h1 h2 h3 hk62 HAT1 HB1 HK61 HK101 HAT HB0 HK6 HK10 hc65 hc65b))
 go_upto_region 5 with (first
  | (go_at_call 22; refine (mail1_calls w _ w.heap.size (w.heap.size + 1 + 1) HB2.out.size b2 a3 ⟨#[82, 69, 81, 85, 73, 82, 69, 84, 76, 83]⟩ ⟨#[]⟩ a0 3 u1 x0 (by omega) (by omega) HAT2.out HB2.out).mono ?_; rintro e w3 ⟨rfl, ⟨u2, h1⟩, h2, h3⟩; rw [← HX1.out] at h1; have HAT3 := Aside0.mk h1; have HB3 := Aside0.mk h2; have hk62 := h3 _ _ _ HK62.out (by decide) (by omega); have HK63 := Aside0.mk hk62; have HK103 := Aside0.mk (h3 _ _ _ HK102.out (by decide) (by omega)); have hc63 : w3.cell? ⟨w.heap.size, 3, none⟩ = some (.bool b3) := blk_cell hk62 3; clear h1 h2 h3 hk62 HAT2 HB2 HK62 HK102 hc65c hc62))
 go_upto_region 6 with (first
  | (go_at_call 22; refine (mail1_calls w _ w.heap.size (w.heap.size + 1 + 1) HB3.out.size b3 (!a4.toList.isEmpty) ⟨#[69, 78, 86, 73, 68]⟩ a4 a0 3 u2 x1 (by omega) (by omega) HAT3.out HB3.out).mono ?_; rintro e w4 ⟨rfl, ⟨u3, h1⟩, h2, h3⟩; rw [← HX2.out] at h1; have HAT4 := Aside0.mk h1; have HB4 := Aside0.mk h2; have HK104 := Aside0.mk (h3 _ _ _ HK103.out (by decide) (by omega)); clear h1 h2 h3 HAT3 HB3 HK63 HK103 hc63))
 have hcv := _root_.Go.Lib.run_convert_string_bytes (P := Tryd.prog) w4 9 59 5 a4 Tryd.underlying9 Tryd.underlying59 Tryd.underlying5
 generalize grownCap _ a4.size 0 5 = cap at hcv
 have hcont := cont_any 25 (enters_of Tryd.func25 (by kernel_rfl) rfl) idByte mail2_calls a4 h4 w4 cap
 generalize a4.data.toList.all idByte = lt at hcont HRES
 generalize bytesWorld w4 5 a4 = W5 at hcv hcont
 obtain ⟨A3, c3, rfl⟩ := Kd.R_slice HAT4.out.1
 go_upto_region 7 with (first | (go_at_call 24; refine hcont.mono ?_; rintro e w6 ⟨rfl, hb⟩; have HAT6 := Aside0.mk (HAT4.out.below hb); have HK106 := Aside0.mk (blk_below HK104.out hb); have HB6 : Aside0 (Below w.heap.size w w6) := ⟨below_step HB4.out hb⟩; clear hb hcont hcv HAT4 HK104 HB4))
 have hk126 := HAT6.out.2
 have hk106 := HK106.out
 have hc0 : w6.cell? ⟨w.heap.size + 1 + 1, 0, none⟩ = some (.int .u8 3) := blk_cell hk126 0
 have hc1 : w6.cell? ⟨w.heap.size + 1 + 1, 1, none⟩ = some (.string a0) := blk_cell hk126 1
 have hc2 : w6.cell? ⟨w.heap.size + 1 + 1, 2, none⟩ = some (.slice A3 row.length c3) := blk_cell hk126 2
 have hb0 : w6.cell? ⟨w.heap.size + 1, 0, none⟩ = some (.int .u8 0) := blk_cell hk106 0
 have hb1 : w6.cell? ⟨w.heap.size + 1, 1, none⟩ = some (.string ⟨#[]⟩) := blk_cell hk106 1
 have hb2 : w6.cell? ⟨w.heap.size + 1, 2, none⟩ = some (.slice none 0 0) := blk_cell hk106 2
 have hg0 := blk_frozen hk106 0
 have hg1 := blk_frozen hk106 1
 have hg2 := blk_frozen hk106 2
 clear hk126 hk106
 by_cases hneg : decide (a2 < 0) = true
 ·have HE : Aside0 ((0 : Int) = r1 ∧ (⟨#[]⟩ : ByteArray) = r2 ∧ ([] : List S49) = r3 ∧ (4 : Int) = r4) := ⟨by have h := HRES; simp only [hneg] at h; simpa [Hid] using h⟩
  clear HRES
  go_wp2
  refine bodyPost_ret (results_ct rfl _ _ (w.heap.size + 1) 27 #[.int .u8 0, .string ⟨#[]⟩, .slice none 0 0] (0, 0) _ rfl (by refine blk_put (cs := #[.int .u8 0, .string ⟨#[]⟩, .slice none 0 0]) ?_ 2 _ rfl; refine blk_put (cs := #[.int .u8 0, .string ⟨#[]⟩, .slice none 0 0]) ?_ 1 _ rfl; refine blk_put (cs := #[.int .u8 0, .string ⟨#[]⟩, .slice none 0 0]) ?_ 0 _ rfl; first | exact HK107.out | exact HK106.out) Tryd.underlying27 rfl (by kernel_rfl)) rfl ?_
  obtain ⟨rfl, rfl, rfl, rfl⟩ := HE.out
  exact ⟨_, rfl, Kd.R_nil _ _ _ _ _, by repeat (first | exact HB6.out | exact HB7.out | refine below_set ?_ (by omega))⟩
 ·rw [Bool.not_eq_true] at hneg
  cases lt with
  | false =>
   have HE : Aside0 ((0 : Int) = r1 ∧ (⟨#[]⟩ : ByteArray) = r2 ∧ ([] : List S49) = r3 ∧ (4 : Int) = r4) := ⟨by have h := HRES; simp only [hneg, Bool.not_false] at h; simpa [Hid] using h⟩
   clear HRES
   go_wp2
   refine bodyPost_ret (results_ct rfl _ _ (w.heap.size + 1) 27 #[.int .u8 0, .string ⟨#[]⟩, .slice none 0 0] (0, 0) _ rfl (by refine blk_put (cs := #[.int .u8 0, .string ⟨#[]⟩, .slice none 0 0]) ?_ 2 _ rfl; refine blk_put (cs := #[.int .u8 0, .string ⟨#[]⟩, .slice none 0 0]) ?_ 1 _ rfl; refine blk_put (cs := #[.int .u8 0, .string ⟨#[]⟩, .slice none 0 0]) ?_ 0 _ rfl; first | exact HK107.out | exact HK106.out) Tryd.underlying27 rfl (by kernel_rfl)) rfl ?_
   obtain ⟨rfl, rfl, rfl, rfl⟩ := HE.out
   exact ⟨_, rfl, Kd.R_nil _ _ _ _ _, by repeat (first | exact HB6.out | exact HB7.out | refine below_set ?_ (by omega))⟩
  | true =>
   by_cases h32 : decide (32 < (a4.size : Int)) = true
   ·have HE : Aside0 ((0 : Int) = r1 ∧ (⟨#[]⟩ : ByteArray) = r2 ∧ ([] : List S49) = r3 ∧ (4 : Int) = r4) := ⟨by have h := HRES; simp only [hneg, h32] at h; simpa [Hid] using h⟩
    clear HRES
    go_wp2
    refine bodyPost_ret (results_ct rfl _ _ (w.heap.size + 1) 27 #[.int .u8 0, .string ⟨#[]⟩, .slice none 0 0] (0, 0) _ rfl (by refine blk_put (cs := #[.int .u8 0, .string ⟨#[]⟩, .slice none 0 0]) ?_ 2 _ rfl; refine blk_put (cs := #[.int .u8 0, .string ⟨#[]⟩, .slice none 0 0]) ?_ 1 _ rfl; refine blk_put (cs := #[.int .u8 0, .string ⟨#[]⟩, .slice none 0 0]) ?_ 0 _ rfl; first | exact HK107.out | exact HK106.out) Tryd.underlying27 rfl (by kernel_rfl)) rfl ?_
    obtain ⟨rfl, rfl, rfl, rfl⟩ := HE.out
    exact ⟨_, rfl, Kd.R_nil _ _ _ _ _, by repeat (first | exact HB6.out | exact HB7.out | refine below_set ?_ (by omega))⟩
   ·rw [Bool.not_eq_true] at h32
    cases rr with
    | false =>
     have HE : Aside0 ((0 : Int) = r1 ∧ (⟨#[]⟩ : ByteArray) = r2 ∧ ([] : List S49) = r3 ∧ (4 : Int) = r4) := ⟨by have h := HRES; simp only [hneg, h32, Bool.not_false] at h; simpa [Hid] using h⟩
     clear HRES
     go_wp2_with (go_at_call 17; refine (cmd_May.calls 1 3 a0 A3 c3 row _ w6 (Kd.R_reads' HAT6.out.1).2.2 (Kd.R_reads' HAT6.out.1).2.1 hrr).mono ?_; rintro e w7 ⟨rfl, hb⟩; have hk127 := blk_below HAT6.out.2 hb; have hk107 := blk_below HK106.out hb; have HAT7 := Aside0.mk (HAT6.out.below hb); have HK107 := Aside0.mk hk107; have HB7 : Aside0 (Below w.heap.size w w7) := ⟨below_step HB6.out hb⟩; have hd0 : w7.cell? ⟨w.heap.size + 1 + 1, 0, none⟩ = some (.int .u8 3) := blk_cell hk127 0; have hd1 : w7.cell? ⟨w.heap.size + 1 + 1, 1, none⟩ = some (.string a0) := blk_cell hk127 1; have hd2 : w7.cell? ⟨w.heap.size + 1 + 1, 2, none⟩ = some (.slice A3 row.length c3) := blk_cell hk127 2; have he0 : w7.cell? ⟨w.heap.size + 1, 0, none⟩ = some (.int .u8 0) := blk_cell hk107 0; have he1 : w7.cell? ⟨w.heap.size + 1, 1, none⟩ = some (.string ⟨#[]⟩) := blk_cell hk107 1; have he2 : w7.cell? ⟨w.heap.size + 1, 2, none⟩ = some (.slice none 0 0) := blk_cell hk107 2; have hf0 := blk_frozen hk107 0; have hf1 := blk_frozen hk107 1; have hf2 := blk_frozen hk107 2; have HK127 := Aside0.mk hk127; clear hb hk127 hk107)
     refine bodyPost_ret (results_ct rfl _ _ (w.heap.size + 1) 27 #[.int .u8 0, .string ⟨#[]⟩, .slice none 0 0] (0, 0) _ rfl (by refine blk_put (cs := #[.int .u8 0, .string ⟨#[]⟩, .slice none 0 0]) ?_ 2 _ rfl; refine blk_put (cs := #[.int .u8 0, .string ⟨#[]⟩, .slice none 0 0]) ?_ 1 _ rfl; refine blk_put (cs := #[.int .u8 0, .string ⟨#[]⟩, .slice none 0 0]) ?_ 0 _ rfl; first | exact HK107.out | exact HK106.out) Tryd.underlying27 rfl (by kernel_rfl)) rfl ?_
     obtain ⟨rfl, rfl, rfl, rfl⟩ := HE.out
     exact ⟨_, rfl, Kd.R_nil _ _ _ _ _, by repeat (first | exact HB6.out | exact HB7.out | refine below_set ?_ (by omega))⟩
    | true =>
     have HE : Aside0 ((3 : Int) = r1 ∧ a0 = r2 ∧ row = r3 ∧ (0 : Int) = r4) := ⟨by have h := HRES; simp only [hneg, h32] at h; simpa [Hid] using h⟩
     clear HRES
     go_wp2_with (go_at_call 17; refine (cmd_May.calls 1 3 a0 A3 c3 row _ w6 (Kd.R_reads' HAT6.out.1).2.2 (Kd.R_reads' HAT6.out.1).2.1 hrr).mono ?_; rintro e w7 ⟨rfl, hb⟩; have hk127 := blk_below HAT6.out.2 hb; have hk107 := blk_below HK106.out hb; have HAT7 := Aside0.mk (HAT6.out.below hb); have HK107 := Aside0.mk hk107; have HB7 : Aside0 (Below w.heap.size w w7) := ⟨below_step HB6.out hb⟩; have hd0 : w7.cell? ⟨w.heap.size + 1 + 1, 0, none⟩ = some (.int .u8 3) := blk_cell hk127 0; have hd1 : w7.cell? ⟨w.heap.size + 1 + 1, 1, none⟩ = some (.string a0) := blk_cell hk127 1; have hd2 : w7.cell? ⟨w.heap.size + 1 + 1, 2, none⟩ = some (.slice A3 row.length c3) := blk_cell hk127 2; have he0 : w7.cell? ⟨w.heap.size + 1, 0, none⟩ = some (.int .u8 0) := blk_cell hk107 0; have he1 : w7.cell? ⟨w.heap.size + 1, 1, none⟩ = some (.string ⟨#[]⟩) := blk_cell hk107 1; have he2 : w7.cell? ⟨w.heap.size + 1, 2, none⟩ = some (.slice none 0 0) := blk_cell hk107 2; have hf0 := blk_frozen hk107 0; have hf1 := blk_frozen hk107 1; have hf2 := blk_frozen hk107 2; have HK127 := Aside0.mk hk127; clear hb hk127 hk107)
     refine bodyPost_ret (results_ct rfl _ _ (w.heap.size + 1) 27 #[.int .u8 3, .string a0, .slice A3 row.length c3] (0, 0) _ rfl (by refine blk_put (cs := #[.int .u8 3, .string a0, .slice none 0 0]) ?_ 2 _ rfl; refine blk_put (cs := #[.int .u8 3, .string ⟨#[]⟩, .slice none 0 0]) ?_ 1 _ rfl; refine blk_put (cs := #[.int .u8 0, .string ⟨#[]⟩, .slice none 0 0]) ?_ 0 _ rfl; exact HK107.out) Tryd.underlying27 rfl (by kernel_rfl)) rfl ?_
     obtain ⟨rfl, rfl, rfl, rfl⟩ := HE.out
     exact ⟨_, rfl, Kd.R_mono (Kd.R_far (p := ⟨w.heap.size + 1, 2, none⟩) (Kd.R_far (p := ⟨w.heap.size + 1, 1, none⟩) (Kd.R_far (p := ⟨w.heap.size + 1, 0, none⟩) (Kd.R_types HAT7.out.1 HK107.out (by decide)) (fun _ hk => hk.2) (.int .u8 3)) (fun _ hk => hk.2) (.string a0)) (fun _ hk => hk.2) (.slice A3 row.length c3)) (fun _ hk => trivial), by repeat (first | exact HB7.out | refine below_set ?_ (by omega))⟩
def cmd_Mail.f (a0 : ByteArray) (b0 b1 b2 b3 b4 b5 : Bool) (b6 a2 : Int) (a3 : Bool) (a4 : ByteArray) : Option (Int × ByteArray × List S49 × Int) :=
 if a4.size ≤ 140737488351232 then (code_Show.f a2).bind fun n => (cmd_May.f 1 3 a0 (mailRow b5 b2 b3 a3 n a4)).bind fun rr => some (if (decide (a2 < 0) || !a4.data.toList.all idByte || decide (32 < (a4.size : Int)) || !rr) = true then (0, ⟨#[]⟩, [], 4) else (3, a0, mailRow b5 b2 b3 a3 n a4, 0)) else none
theorem cmd_Mail.calls (a0 : ByteArray) (a1_0 a1_1 a1_2 a1_3 a1_4 a1_5 : Bool) (a1_6 a2 : Int) (a3 : Bool) (a4 : ByteArray) (r1 : Int) (r2 : ByteArray) (r3 : List S49) (r4 : Int) (w : World) (h : cmd_Mail.f a0 a1_0 a1_1 a1_2 a1_3 a1_4 a1_5 a1_6 a2 a3 a4 = some (r1, r2, r3, r4)) (hG : GL w) :
  Calls Tryd.prog 8 #[.string a0, .agg #[.bool a1_0, .bool a1_1, .bool a1_2, .bool a1_3, .bool a1_4, .bool a1_5, .int .i64 a1_6], .int .i64 a2, .bool a3, .string a4] w fun e w' => ∃ v2_ : Value, e = .returned (.tuple #[.agg #[.int .u8 r1, .string r2, v2_], .int .i64 r4]) ∧ Kd.R k49 49 w' w.heap.size (fun _ => True) v2_ r3 ∧ Below w.heap.size w w' := by
 unfold cmd_Mail.f at h
 split at h
 ·rename_i hs
  obtain ⟨n, hn, h⟩ := Option.bind_eq_some_iff.1 h
  obtain ⟨rr, hrr, h⟩ := Option.bind_eq_some_iff.1 h
  exact mail_walk a0 a1_0 a1_1 a1_2 a1_3 a1_4 a1_5 a1_6 a2 a3 a4 n w hG hn hs rr hrr r1 r2 r3 r4 (Option.some.inj h)
 ·simp at h
end Go.Proofs.YtljkopbalejcgaaDoor.P
end
section
set_option linter.unusedVariables false
set_option linter.unusedSimpArgs false
namespace Go.Proofs.YtljkopbalejcgaaDoor.P
open Go Go.RowKit Go.Lib Go.Proofs.YtljkopbalejcgaaDoorW.PrintWords
theorem idByte_val (c : UInt8) (h : idByte c = true) : valByte c = true := by
 have := bytes_all (fun c => !idByte c || valByte c) (by decide +kernel) c
 simp only [h, Bool.not_true, Bool.false_or] at this
 exact this
theorem dig_val (d : Nat) (h : d < 10) : valByte (UInt8.ofNat (48 + d)) = true := by
 have : (List.range 10).all (fun d => valByte (UInt8.ofNat (48 + d))) = true := by decide +kernel
 exact List.all_eq_true.1 this d (List.mem_range.2 h)
theorem dec_val (u : Nat) : (Lib.decDigits u).all valByte = true := by
 induction u using Nat.strongRecOn with
 | _ u ih =>
  by_cases h : u < 10
  ·rw [Lib.decDigits, dif_pos h, List.all_cons, dig_val u h]; rfl
  ·rw [Lib.decDigits, dif_neg h, List.all_append, ih (u / 10) (by omega), List.all_cons, dig_val (u % 10) (by omega)]; rfl
theorem itoa_val (n : Int) (h : 0 ≤ n) : (Lib.itoa n).all valByte = true := by unfold Lib.itoa; rw [if_neg (by omega)]; exact dec_val _
theorem mailRow_ok (c5 c2 c3 rq : Bool) (n id : ByteArray) (hn : n.data.toList.all valByte = true) (hid : id.data.toList.all valByte = true) : paramsOk (plOf (mailRow c5 c2 c3 rq n id)) = true := by
 have h1 : paramOk [83, 73, 90, 69] n.data.toList = true := by unfold paramOk; rw [hn]; decide
 have h2 : paramOk [82, 69, 81, 85, 73, 82, 69, 84, 76, 83] [] = true := by decide
 have h3 : paramOk [69, 78, 86, 73, 68] id.data.toList = true := by unfold paramOk; rw [hid]; decide
 unfold mailRow
 generalize (c2 && rq) = x2
 generalize (c3 && (!id.toList.isEmpty)) = x3
 cases c5 <;> cases x2 <;> cases x3 <;> simp [plOf, paramsOk, parAt, List.range_succ, h1, h2, h3]
theorem mailRow_small (c5 c2 c3 rq : Bool) (n id : ByteArray) (hn : n.size ≤ 140737488351232) (hid : id.size ≤ 140737488351232) : plSmall (mailRow c5 c2 c3 rq n id) = true := by
 unfold mailRow
 generalize (c2 && rq) = x2
 generalize (c3 && (!id.toList.isEmpty)) = x3
 cases c5 <;> cases x2 <;> cases x3 <;> simp [plSmall, hn, hid] <;> decide
def mailBad (a0 : ByteArray) (a2 : Int) (a4 : ByteArray) : Bool :=
 decide (a2 < 0) || !a4.data.toList.all idByte || decide (32 < (a4.size : Int)) || !(decide (a0.data.toList = []) || (addrParse a0.data.toList).isSome)
def mailR (a0 : ByteArray) (b2 b3 b5 : Bool) (a2 : Int) (a3 : Bool) (a4 : ByteArray) : Int × ByteArray × List S49 × Int :=
 if mailBad a0 a2 a4 = true then (0, ⟨#[]⟩, [], 4) else (3, a0, mailRow b5 b2 b3 a3 ⟨(Lib.itoa a2).toArray⟩ a4, 0)
theorem cmdMail_eq (a0 : ByteArray) (b0 b1 b2 b3 b4 b5 : Bool) (b6 a2 : Int) (a3 : Bool) (a4 : ByteArray) (ha : a0.size ≤ 1000000) (h4 : a4.size ≤ 1000000) (h0 : -9223372036854775808 ≤ a2) (h1 : a2 ≤ 9223372036854775807) :
  cmd_Mail.f a0 b0 b1 b2 b3 b4 b5 b6 a2 a3 a4 = some (mailR a0 b2 b3 b5 a2 a3 a4) := by
 have hlen := Lib.itoa_length_le a2 h0 h1
 have hns : (⟨(Lib.itoa a2).toArray⟩ : ByteArray).size ≤ 140737488351232 := by show (Lib.itoa a2).toArray.size ≤ _; rw [List.size_toArray]; omega
 have hp : cmd_params.f (mailRow b5 b2 b3 a3 ⟨(Lib.itoa a2).toArray⟩ a4) = some (paramsOk (plOf (mailRow b5 b2 b3 a3 ⟨(Lib.itoa a2).toArray⟩ a4))) := by
  unfold cmd_params.f; rw [if_pos (mailRow_small _ _ _ _ _ _ hns (by omega))]
 unfold cmd_Mail.f code_Show.f
 rw [if_pos (by omega), if_pos ⟨h0, h1⟩]
 simp only [Option.bind_some]
 have hm := cmdMay_3 0 a0 ha _ _ hp
 rw [Nat.zero_add] at hm
 rw [hm]
 simp only [Option.bind_some]
 unfold mailR mailBad
 by_cases hneg : a2 < 0
 ·simp [hneg]
 ·cases hall : a4.data.toList.all idByte with
  | false => simp
  | true =>
   rw [mailRow_ok b5 b2 b3 a3 _ a4 (itoa_val a2 (by omega)) (List.all_eq_true.2 fun c hc => idByte_val c (List.all_eq_true.1 hall c hc)), Bool.and_true]
def rcptC (a : ByteArray) (dsn never : Bool) : Int × ByteArray × List S49 × Int :=
 if (addrParse a.data.toList).isSome = true then (4, a, if (dsn && never) = true then [⟨⟨#[78, 79, 84, 73, 70, 89]⟩, ⟨#[78, 69, 86, 69, 82]⟩⟩] else [], 0) else (0, ⟨#[]⟩, [], 4)
theorem rcpt_j0 (k : Nat) (a : ByteArray) (ha : a.size ≤ 1000000) (q : Bool) : cmd_Rcpt.j0 (k + 2) q 4 a = some (rcptC a q true) := by
 have h1 : cmd_params.f ([⟨⟨#[78, 79, 84, 73, 70, 89]⟩, ⟨#[78, 69, 86, 69, 82]⟩⟩] : List S49) = some true := by
  unfold cmd_params.f
  rw [if_pos (by decide)]
  exact congrArg some (by decide)
 have h0 : cmd_params.f ([] : List S49) = some true := by
  unfold cmd_params.f
  rw [if_pos (by decide)]
  exact congrArg some (by decide)
 simp only [cmd_Rcpt.j0, Option.bind_some]
 rw [cmdMay_4 k a ha _ _ h1, cmdMay_4 k a ha _ _ h0]
 unfold rcptC
 cases q <;> cases (addrParse a.data.toList).isSome <;> rfl
theorem rcpt_ev (a : ByteArray) (ha : a.size ≤ 1000000) (b0 b1 b2 b3 b4 b5 : Bool) (b6 : Int) (nv : Bool) : EvF (fun k => cmd_Rcpt.f k a b0 b1 b2 b3 b4 b5 b6 nv) (rcptC a b3 nv) := by
 refine EvF.succ (g := fun k => cmd_Rcpt.f (k + 1) a b0 b1 b2 b3 b4 b5 b6 nv) (EvF.succ (g := fun k => cmd_Rcpt.f (k + 2) a b0 b1 b2 b3 b4 b5 b6 nv) (EvF.of fun k => ?_) (fun k => rfl)) (fun k => rfl)
 unfold cmd_Rcpt.f
 cases b3 with
 | false => rw [if_neg (by decide), rcpt_j0 k a ha]; rfl
 | true => rw [if_pos rfl, rcpt_j0 k a ha]; unfold rcptC; cases nv <;> rfl
theorem mailRow_len (c5 c2 c3 rq : Bool) (n id : ByteArray) : (mailRow c5 c2 c3 rq n id).length ≤ 3 := by
 unfold mailRow
 generalize (c2 && rq) = x2
 generalize (c3 && (!id.toList.isEmpty)) = x3
 cases c5 <;> cases x2 <;> cases x3 <;> simp
end Go.Proofs.YtljkopbalejcgaaDoor.P
end
section
namespace Go.Proofs.YtljkopbalejcgaaDoor.P
open Go.RowKit Go.Proofs.YtljkopbalejcgaaDoorW.PrintWords Go.Proofs.YtljkopbalejcgaaDoorW.PrintLast Go.Proofs.YtljkopbalejcgaaDoorW.PrintMore
attribute [local go_sem] max2_int min2_int max_two min_two max_three min_three max_four min_four
set_option linter.unusedVariables false
set_option linter.unusedSimpArgs false
def cmd_Get.l0 : Nat → ByteArray → List (S49) → Int → Int → Option (ByteArray × Bool)
 | 0, _, _, _, _ => none
 | k + 1, x1, x9, x10, x11 => if x11 < x10 then (if 0 ≤ x11 then (if x11 < (x9.length : Int) then (if ((rd_T49 x9 x11).f0).toList = x1.toList then (some ((rd_T49 x9 x11).f1, true)) else (cmd_Get.l0 k x1 x9 x10 (wrap64 (x11 + 1)))) else (none)) else (none)) else (some ((⟨#[]⟩ : ByteArray), false))
def cmd_Get.f (k : Nat) (a0_0 : Int) (a0_1 : ByteArray) (l0_2 : List (S49)) (a1 : ByteArray) : Option (ByteArray × Bool) := cmd_Get.l0 k a1 l0_2 (l0_2.length : Int) 0
theorem cmd_Get.mono_l : ∀ k, (∀ y0 y1 y2 y3, LeO (cmd_Get.l0 k y0 y1 y2 y3) (cmd_Get.l0 (k + 1) y0 y1 y2 y3))
 | 0 => fun _ _ _ _ r h => by simp [cmd_Get.l0] at h
 | k + 1 => by
  have ih0 := cmd_Get.mono_l k
  ·intro y0 y1 y2 y3
   unfold cmd_Get.l0
   repeat' first
   | (with_reducible exact ih0 _ _ _ _)
   | (with_reducible exact LeO.refl _)
   | (with_reducible exact LeO.none _)
   | (with_reducible refine LeO.ite ?_ ?_)
   | (with_reducible refine LeO.bind ?_ (fun _ => ?_))
   | exact ih0 _ _ _ _
   | exact LeO.none _
   | refine LeO.ite ?_ ?_
   | refine LeO.bind ?_ (fun _ => ?_)
theorem cmd_Get.mono : ∀ a0 a1 a2 a3 k, LeO (cmd_Get.f k a0 a1 a2 a3) (cmd_Get.f (k + 1) a0 a1 a2 a3) := by
 intro a0 a1 a2 a3 k
 have ih0 := cmd_Get.mono_l k
 unfold cmd_Get.f
 repeat' first
   | (with_reducible exact ih0 _ _ _ _)
   | (with_reducible exact LeO.refl _)
   | (with_reducible exact LeO.none _)
   | (with_reducible refine LeO.ite ?_ ?_)
   | (with_reducible refine LeO.bind ?_ (fun _ => ?_))
   | exact ih0 _ _ _ _
   | exact LeO.none _
   | refine LeO.ite ?_ ?_
   | refine LeO.bind ?_ (fun _ => ?_)
set_option maxHeartbeats 8000000 in
set_option maxRecDepth 100000 in
theorem cmd_Get.calls (k : Nat) (a0_0 : Int) (a0_1 : ByteArray) (A0_2 : Option Addr) (c0_2 : Nat) (l0_2 : List (S49)) (a1 : ByteArray) (r1 : ByteArray) (r2 : Bool) (w : World) (hr0_2 : Kd.C k49 w A0_2 l0_2.length l0_2) (hc0_2 : l0_2.length ≤ c0_2) (h : cmd_Get.f k a0_0 a0_1 l0_2 a1 = some (r1, r2)) :
  Calls Tryd.prog 9 #[.agg #[.int .u8 a0_0, .string a0_1, .slice A0_2 l0_2.length c0_2], .string a1] w fun e w' => e = .returned (.tuple #[.string r1, .bool r2]) ∧ Below w.heap.size w w' := by
 have hu27 := Tryd.underlying27
 have hu49 := Tryd.underlying49
 have HR0_2 := Aside0.mk hr0_2
 have HC0_2 := Aside0.mk hc0_2
 clear hr0_2 hc0_2
 have HB := Aside0.mk (Below.refl w.heap.size w)
 have H : (cmd_Get.l0 k a1 l0_2 (l0_2.length : Int) 0) = some (r1, r2) := h
 clear h
 have H' := Aside0.mk H
 clear H
 go_enter Tryd.func9, Tryd.ntmps9
 go_wp2_with (first | ((with_reducible refine gate_dst (N := 2) rfl ?_); refine box_event ?hg (N := 2) ?hd (cs := #[.int .u8 a0_0, .string a0_1, .slice A0_2 l0_2.length c0_2]) (t := 27) ?hr ?_; (case hd => rfl); (case hg => rfl); (case hr => first | (go_simp; done) | (go_simp; rfl)); intro gb188 hg w3 hbox hb; have n0_ := Aside0.mk (below_step (by repeat (first | (with_reducible first | exact HB.out | apply below_alloc | apply pw_below_drewN | apply below_drew1) | exact HB.out)) hb); have n1_ := Aside0.mk (hbox); have n2_ := Aside0.mk ((by rw [hg]; exact (below_size (by repeat (first | (with_reducible first | exact HB.out | apply below_alloc | apply pw_below_drewN | apply below_drew1) | exact HB.out))) : w.heap.size ≤ gb188)); have n3_ := Aside0.mk ((by rw [hg]; exact (below_size (by repeat (first | (with_reducible first | exact HB.out | apply below_alloc | apply pw_below_drewN | apply below_drew1) | exact HB.out))) : w.heap.size ≤ gb188)); clear HB; have HB := n0_; have BK188 := n1_; have GW188 := n2_; have GE188 := n3_; clear n0_ n1_ n2_ n3_; clear hb hbox hg; have hcz4_0 : w3.cell? ⟨gb188, 0, none⟩ = some (.int .u8 a0_0) := (blk_cell BK188.out 0).trans rfl; have hcz4_1 : w3.cell? ⟨gb188, 1, none⟩ = some (.string a0_1) := (blk_cell BK188.out 1).trans rfl; have hcz4_2 : w3.cell? ⟨gb188, 2, none⟩ = some (.slice A0_2 l0_2.length c0_2) := (blk_cell BK188.out 2).trans rfl; have hfz4_0 := blk_frozen BK188.out 0; have hfz4_1 := blk_frozen BK188.out 1; have hfz4_2 := blk_frozen BK188.out 2))
 go_loopg [11] k (fun kq v11 w' => ∃ (x11_1 : Int), v11 = .int .i64 x11_1 ∧ Aside0 (cmd_Get.l0 kq a1 l0_2 (l0_2.length : Int) x11_1 = some (r1, r2)) ∧ Aside0 (kq ≤ k) ∧ Aside0 (w'.heap[gb188]? = some (.cells #[.int .u8 a0_0, .string a0_1, (.slice A0_2 l0_2.length c0_2)] 27 (0, 0))) ∧ Aside0 (Below w.heap.size w w'))
 case atStart => exact ⟨(0), (by first | rfl | (simp; done) | (simp [*]; done)), H', ⟨Nat.le_refl _⟩, ⟨by (with_reducible repeat (first | refine blk_drewN ?_ _ | refine blk_drew ?_ | refine blk_alloc ?_ _)); exact BK188.out⟩, ⟨by repeat (first | (with_reducible first | exact HB.out | apply below_alloc | apply pw_below_drewN | apply below_drew1 | refine below_set ?_ GE188.out) | exact HB.out)⟩⟩
 case round =>
  clear H'
  try clear p2
  try clear hcz4_0
  try clear hcz4_1
  try clear hcz4_2
  try clear hfz4_0
  try clear hfz4_1
  try clear hfz4_2
  obtain ⟨x11_1, rfl, HA, HK1, BK188, HB⟩ := hrel
  cases gk with
  | zero => exact absurd HA.out (by simp [cmd_Get.l0])
  | succ k1 =>
   have H := HA.out
   clear HA
   simp only [cmd_Get.l0] at H
   by_cases c5 : x11_1 < (l0_2.length : Int)
   ·rw [if_pos c5] at H
    have c5b0 : decide (x11_1 < (l0_2.length : Int)) = true := decide_eq_true c5
    clear c5
    by_cases c6 : 0 ≤ x11_1
    ·rw [if_pos c6] at H
     have c6b0 : decide (0 ≤ x11_1) = true := decide_eq_true c6
     clear c6
     by_cases c7 : x11_1 < (l0_2.length : Int)
     ·rw [if_pos c7] at H
      have c7b0 : decide (x11_1 < (l0_2.length : Int)) = true := decide_eq_true c7
      clear c7
      by_cases c8 : ((rd_T49 l0_2 x11_1).f0).toList = a1.toList
      ·rw [if_pos c8] at H
       have c8b0 : (((rd_T49 l0_2 x11_1).f0).toList == a1.toList) = true := beq_iff_eq.mpr c8
       have c8b1 : (((rd_T49 l0_2 x11_1).f0).toList != a1.toList) = false := bne_eq_false_iff_eq.mpr c8
       clear c8
       simp only [Option.some.injEq, Prod.mk.injEq] at H
       obtain ⟨rfl, rfl⟩ := H
       have p189 : 0 ≤ (x11_1 : Int) := of_decide_eq_true (by first | (with_reducible assumption) | assumption)
       have q189 : x11_1 < (l0_2.length : Int) := of_decide_eq_true (by first | (with_reducible assumption) | assumption)
       obtain ⟨ad189, e189, hx189_0, hx189_1⟩ := at_T49 HR0_2.out x11_1 p189 q189
       cases e189
       replace hx189_0 := (HB.out.cell (World.block_lt_of_cell? w _ hx189_0)).trans hx189_0
       replace hx189_1 := (HB.out.cell (World.block_lt_of_cell? w _ hx189_1)).trans hx189_1
       replace p189 := eq_true p189
       replace q189 := eq_true q189
       go_wp2_with (first | ((with_reducible refine gate_dst (N := 7) rfl ?_); refine box_event ?hg (N := 7) ?hd (cs := #[.string (⟨#[]⟩ : ByteArray), .string (⟨#[]⟩ : ByteArray)]) (t := 49) ?hr ?_; (case hd => rfl); (case hg => rfl); (case hr => first | (go_simp; done) | (go_simp; rfl)); intro gb190 hg w9 hbox hb; have n0_ := Aside0.mk (blk_below (g := gb188) (o := .cells #[.int .u8 a0_0, .string a0_1, .slice (some ad189) l0_2.length c0_2] 27 (0, 0)) (by (with_reducible repeat (first | refine blk_drewN ?_ _ | refine blk_drew ?_ | refine blk_alloc ?_ _)); exact BK188.out) hb); have n1_ := Aside0.mk (below_step (by repeat (first | (with_reducible first | exact HB.out | apply below_alloc | apply pw_below_drewN | apply below_drew1 | refine below_set ?_ GE188.out) | exact HB.out)) hb); have n2_ := Aside0.mk (hbox); have n3_ := Aside0.mk ((by rw [hg]; exact (below_size (by repeat (first | (with_reducible first | exact HB.out | apply below_alloc | apply pw_below_drewN | apply below_drew1 | refine below_set ?_ GE188.out) | exact HB.out))) : w.heap.size ≤ gb190)); have n4_ := Aside0.mk ((by rw [hg]; exact (below_size (by repeat (first | (with_reducible first | exact HB.out | apply below_alloc | apply pw_below_drewN | apply below_drew1 | refine below_set ?_ GE188.out) | exact HB.out))) : w.heap.size ≤ gb190)); have n5_ := Aside0.mk ((by rw [hg]; exact Nat.ne_of_lt (blk_lt (g := gb188) (o := .cells #[.int .u8 a0_0, .string a0_1, .slice (some ad189) l0_2.length c0_2] 27 (0, 0)) (by (with_reducible repeat (first | refine blk_drewN ?_ _ | refine blk_drew ?_ | refine blk_alloc ?_ _)); exact BK188.out)) : gb188 ≠ gb190)); have n6_ := Aside0.mk ((by rw [hg]; exact Nat.ne_of_gt (blk_lt (g := gb188) (o := .cells #[.int .u8 a0_0, .string a0_1, .slice (some ad189) l0_2.length c0_2] 27 (0, 0)) (by (with_reducible repeat (first | refine blk_drewN ?_ _ | refine blk_drew ?_ | refine blk_alloc ?_ _)); exact BK188.out)) : gb190 ≠ gb188)); clear BK188; clear HB; have BK188 := n0_; have HB := n1_; have BK190 := n2_; have GW190 := n3_; have GE190 := n4_; have NB188_190 := n5_; have NB190_188 := n6_; clear n0_ n1_ n2_ n3_ n4_ n5_ n6_; clear hb hbox hg; have hnb10 := NB190_188.out; have hnc10 := NB188_190.out; have hcz11_0 : w9.cell? ⟨gb190, 0, none⟩ = some (.string (⟨#[]⟩ : ByteArray)) := (blk_cell BK190.out 0).trans rfl; have hcz11_1 : w9.cell? ⟨gb190, 1, none⟩ = some (.string (⟨#[]⟩ : ByteArray)) := (blk_cell BK190.out 1).trans rfl; have hfz11_0 := blk_frozen BK190.out 0; have hfz11_1 := blk_frozen BK190.out 1))
       go_ret2
       exact ⟨by first | rfl | (simp [errW_none, errW_some] <;> rfl) | (simp [*, errW_none, errW_some] <;> rfl), by repeat (first | (with_reducible first | exact HB.out | apply below_alloc | apply pw_below_drewN | apply below_drew1 | refine below_set ?_ GE188.out | refine below_set ?_ GE190.out) | exact HB.out)⟩
      ·rw [if_neg c8] at H
       have c8b0 : (((rd_T49 l0_2 x11_1).f0).toList == a1.toList) = false := beq_eq_false_iff_ne.mpr c8
       have c8b1 : (((rd_T49 l0_2 x11_1).f0).toList != a1.toList) = true := bne_iff_ne.mpr c8
       have H' := Aside0.mk H
       clear H
       have p189 : 0 ≤ (x11_1 : Int) := of_decide_eq_true (by first | (with_reducible assumption) | assumption)
       have q189 : x11_1 < (l0_2.length : Int) := of_decide_eq_true (by first | (with_reducible assumption) | assumption)
       obtain ⟨ad189, e189, hx189_0, hx189_1⟩ := at_T49 HR0_2.out x11_1 p189 q189
       cases e189
       replace hx189_0 := (HB.out.cell (World.block_lt_of_cell? w _ hx189_0)).trans hx189_0
       replace hx189_1 := (HB.out.cell (World.block_lt_of_cell? w _ hx189_1)).trans hx189_1
       replace p189 := eq_true p189
       replace q189 := eq_true q189
       go_wp2_with (first | ((with_reducible refine gate_dst (N := 7) rfl ?_); refine box_event ?hg (N := 7) ?hd (cs := #[.string (⟨#[]⟩ : ByteArray), .string (⟨#[]⟩ : ByteArray)]) (t := 49) ?hr ?_; (case hd => rfl); (case hg => rfl); (case hr => first | (go_simp; done) | (go_simp; rfl)); intro gb190 hg w12 hbox hb; have n0_ := Aside0.mk (blk_below (g := gb188) (o := .cells #[.int .u8 a0_0, .string a0_1, .slice (some ad189) l0_2.length c0_2] 27 (0, 0)) (by (with_reducible repeat (first | refine blk_drewN ?_ _ | refine blk_drew ?_ | refine blk_alloc ?_ _)); exact BK188.out) hb); have n1_ := Aside0.mk (below_step (by repeat (first | (with_reducible first | exact HB.out | apply below_alloc | apply pw_below_drewN | apply below_drew1 | refine below_set ?_ GE188.out) | exact HB.out)) hb); have n2_ := Aside0.mk (hbox); have n3_ := Aside0.mk ((by rw [hg]; exact (below_size (by repeat (first | (with_reducible first | exact HB.out | apply below_alloc | apply pw_below_drewN | apply below_drew1 | refine below_set ?_ GE188.out) | exact HB.out))) : w.heap.size ≤ gb190)); have n4_ := Aside0.mk ((by rw [hg]; exact (below_size (by repeat (first | (with_reducible first | exact HB.out | apply below_alloc | apply pw_below_drewN | apply below_drew1 | refine below_set ?_ GE188.out) | exact HB.out))) : w.heap.size ≤ gb190)); have n5_ := Aside0.mk ((by rw [hg]; exact Nat.ne_of_lt (blk_lt (g := gb188) (o := .cells #[.int .u8 a0_0, .string a0_1, .slice (some ad189) l0_2.length c0_2] 27 (0, 0)) (by (with_reducible repeat (first | refine blk_drewN ?_ _ | refine blk_drew ?_ | refine blk_alloc ?_ _)); exact BK188.out)) : gb188 ≠ gb190)); have n6_ := Aside0.mk ((by rw [hg]; exact Nat.ne_of_gt (blk_lt (g := gb188) (o := .cells #[.int .u8 a0_0, .string a0_1, .slice (some ad189) l0_2.length c0_2] 27 (0, 0)) (by (with_reducible repeat (first | refine blk_drewN ?_ _ | refine blk_drew ?_ | refine blk_alloc ?_ _)); exact BK188.out)) : gb190 ≠ gb188)); clear BK188; clear HB; have BK188 := n0_; have HB := n1_; have BK190 := n2_; have GW190 := n3_; have GE190 := n4_; have NB188_190 := n5_; have NB190_188 := n6_; clear n0_ n1_ n2_ n3_ n4_ n5_ n6_; clear hb hbox hg; have hnb13 := NB190_188.out; have hnc13 := NB188_190.out; have hcz14_0 : w12.cell? ⟨gb190, 0, none⟩ = some (.string (⟨#[]⟩ : ByteArray)) := (blk_cell BK190.out 0).trans rfl; have hcz14_1 : w12.cell? ⟨gb190, 1, none⟩ = some (.string (⟨#[]⟩ : ByteArray)) := (blk_cell BK190.out 1).trans rfl; have hfz14_0 := blk_frozen BK190.out 0; have hfz14_1 := blk_frozen BK190.out 1))
       go_roundg k1
       case measure => have := HK1.out; omega
       case rel => exact ⟨(wrap64 (x11_1 + 1)), (by first | rfl | (simp; done) | (simp [*]; done)), H', ⟨by have := HK1.out; omega⟩, ⟨by (with_reducible repeat (first | refine blk_drewN ?_ _ | refine blk_drew ?_ | refine blk_alloc ?_ _)); refine blk_far ?_ NB188_190.out _; (with_reducible repeat (first | refine blk_drewN ?_ _ | refine blk_drew ?_ | refine blk_alloc ?_ _)); refine blk_far ?_ NB188_190.out _; (with_reducible repeat (first | refine blk_drewN ?_ _ | refine blk_drew ?_ | refine blk_alloc ?_ _)); exact BK188.out⟩, ⟨by repeat (first | (with_reducible first | exact HB.out | apply below_alloc | apply pw_below_drewN | apply below_drew1 | refine below_set ?_ GE188.out | refine below_set ?_ GE190.out) | exact HB.out)⟩⟩
     ·rw [if_neg c7] at H
      exact absurd H (by simp)
    ·rw [if_neg c6] at H
     exact absurd H (by simp)
   ·rw [if_neg c5] at H
    have c5b0 : decide (x11_1 < (l0_2.length : Int)) = false := decide_eq_false c5
    clear c5
    simp only [Option.some.injEq, Prod.mk.injEq] at H
    obtain ⟨rfl, rfl⟩ := H
    go_wp2
    go_ret2
    exact ⟨by first | rfl | (simp [errW_none, errW_some] <;> rfl) | (simp [*, errW_none, errW_some] <;> rfl), by repeat (first | (with_reducible first | exact HB.out | apply below_alloc | apply pw_below_drewN | apply below_drew1 | refine below_set ?_ GE188.out) | exact HB.out)⟩
end Go.Proofs.YtljkopbalejcgaaDoor.P
end
section
set_option linter.unusedVariables false
set_option linter.unusedSimpArgs false
namespace Go.Proofs.YtljkopbalejcgaaDoor.P
open Go Go.RowKit Go.Lib Go.Proofs.YtljkopbalejcgaaDoorW.PrintWords
def wordsA : Array Value := #[.string ⟨#[]⟩, .string ⟨#[69, 72, 76, 79, 32]⟩, .string ⟨#[83, 84, 65, 82, 84, 84, 76, 83]⟩, .string ⟨#[77, 65, 73, 76, 32, 70, 82, 79, 77, 58]⟩, .string ⟨#[82, 67, 80, 84, 32, 84, 79, 58]⟩, .string ⟨#[68, 65, 84, 65]⟩, .string ⟨#[81, 85, 73, 84]⟩]
set_option maxHeartbeats 400000 in
theorem words_calls (w : World) : Calls Tryd.prog 26 #[] w fun e w' => e = .returned (.agg wordsA) ∧ Below w.heap.size w w' := by
 go_enter Tryd.func26, Tryd.ntmps26
 go_wp2
 exact bodyPost_ret (v := .agg wordsA) (by simp [results, Tryd.results26, go_sem, wordsA]) rfl ⟨rfl, below_alloc (Below.refl _ _) _⟩
def wordB (v : Int) : ByteArray := if v = 1 then ⟨#[69, 72, 76, 79, 32]⟩ else if v = 2 then ⟨#[83, 84, 65, 82, 84, 84, 76, 83]⟩ else if v = 3 then ⟨#[77, 65, 73, 76, 32, 70, 82, 79, 77, 58]⟩ else if v = 4 then ⟨#[82, 67, 80, 84, 32, 84, 79, 58]⟩ else if v = 5 then ⟨#[68, 65, 84, 65]⟩ else ⟨#[81, 85, 73, 84]⟩
theorem run_words (k : IntKind) (i : Nat) (hi : i < 7) (w : World) : (Instr.index 61 (.agg wordsA) (.int k i)).run Tryd.prog w = .ok (wordsA.getD i undef) w := by
 have h7 : i = 0 ∨ i = 1 ∨ i = 2 ∨ i = 3 ∨ i = 4 ∨ i = 5 ∨ i = 6 := by omega
 rcases h7 with rfl | rfl | rfl | rfl | rfl | rfl | rfl <;> simp [Instr.index, run_underlying Tryd.underlying61, asIntOf, go_sem, wordsA]
theorem run_wordB (k : IntKind) (v : Int) (hv : v = 1 ∨ v = 2 ∨ v = 3 ∨ v = 4 ∨ v = 5 ∨ v = 6) (w : World) : (Instr.index 61 (.agg wordsA) (.int k v)).run Tryd.prog w = .ok (.string (wordB v)) w := by
 rcases hv with rfl | rfl | rfl | rfl | rfl | rfl
 ·exact run_words k 1 (by decide) w
 ·exact run_words k 2 (by decide) w
 ·exact run_words k 3 (by decide) w
 ·exact run_words k 4 (by decide) w
 ·exact run_words k 5 (by decide) w
 ·exact run_words k 6 (by decide) w
theorem wordB_size (v : Int) : (wordB v).size ≤ 10 := by unfold wordB; repeat (split; decide); all_goals first | decide | skip
end Go.Proofs.YtljkopbalejcgaaDoor.P
end
section
namespace Go.Proofs.YtljkopbalejcgaaDoor.P
open Go.RowKit Go.Proofs.YtljkopbalejcgaaDoorW.PrintWords Go.Proofs.YtljkopbalejcgaaDoorW.PrintLast Go.Proofs.YtljkopbalejcgaaDoorW.PrintMore
attribute [local go_sem] max2_int min2_int max_two min_two max_three min_three max_four min_four
set_option linter.unusedVariables false
set_option linter.unusedSimpArgs false
open Go Go.Lib
def showP (s : ByteArray) (p : S49) : ByteArray := if p.f1.toList.isEmpty = true then s ++ (⟨#[32]⟩ ++ p.f0) else (s ++ (⟨#[32]⟩ ++ p.f0)) ++ (⟨#[61]⟩ ++ p.f1)
theorem may_verb {v : Int} {a : ByteArray} {l : List S49} (h : cmd_May.f 1 v a l = some true) : v = 1 ∨ v = 2 ∨ v = 3 ∨ v = 4 ∨ v = 5 ∨ v = 6 := by
 unfold cmd_May.f cmd_May.j0 at h
 by_cases h1 : v = 1
 ·omega
 by_cases h2 : v = 2
 ·omega
 by_cases h5 : v = 5
 ·omega
 by_cases h6 : v = 6
 ·omega
 by_cases h3 : v = 3
 ·omega
 by_cases h4 : v = 4
 ·omega
 simp [h1, h2, h3, h4, h5, h6] at h
set_option maxHeartbeats 2000000 in
set_option maxRecDepth 100000 in
theorem show_yes (v : Int) (a : ByteArray) (A : Option Addr) (c : Nat) (l : List S49) (w : World) (hr : Kd.C k49 w A l.length l) (hc : l.length ≤ c) (hl : l.length ≤ 1000) (hsz : ∀ i, i < l.length → (l.getD i z49).f0.size ≤ 140737488351232 ∧ (l.getD i z49).f1.size ≤ 140737488351232)
  (ha : a.size ≤ 140737488351232) (hm : cmd_May.f 1 v a l = some true) (tl : ByteArray) (htl : tl.size ≤ 140737488351242) (h34 : (v = 3 ∨ v = 4) → addr_Path.f a = some tl) (hno : ¬ (v = 3 ∨ v = 4) → tl = a) (res : ByteArray) (hres : Hid (res = l.foldl showP (wordB v ++ tl)))
  (r1 : ByteArray) (r2 : Int) (HRES : Hid ((if 510 < (res.size : Int) then (⟨#[]⟩, 40) else (res, 0)) = (r1, r2))) :
  Calls Tryd.prog 13 #[.agg #[.int .u8 v, .string a, .slice A l.length c]] w fun e w' => e = .returned (.tuple #[.string r1, .int .i64 r2]) ∧ Below w.heap.size w w' := by
 have hv := may_verb hm
 have HR := Aside0.mk hr
 have HSZ := Aside0.mk hsz
 have HC := Aside0.mk hc
 have hcall : ∀ W, Below w.heap.size w W → Calls Tryd.prog 17 #[.agg #[.int .u8 v, .string a, .slice A l.length c]] W fun e w' => e = .returned (.bool true) ∧ Below W.heap.size W w' := fun W hb => cmd_May.calls 1 v a A c l true W (Kd.C_below hr hb) hc hm
 have HCALL := Aside0.mk hcall
 clear hr hsz hcall hc
 go_enter Tryd.func13, Tryd.ntmps13
 go_upto_region 3 with (go_at_call 17; refine (HCALL.out _ (below_alloc (Below.refl _ _) _)).mono ?_; rintro e w1 ⟨rfl, hb⟩; have hk := blk_below (heap_alloc_new w _) hb; have HK := Aside0.mk hk; have HB := Aside0.mk (below_step (below_alloc (Below.refl w.heap.size w) _) hb); have hc0 : w1.cell? ⟨w.heap.size, 0, none⟩ = some (.int .u8 v) := blk_cell hk 0; have hc1 : w1.cell? ⟨w.heap.size, 1, none⟩ = some (.string a) := blk_cell hk 1; clear hb hk)
 have hws := wordB_size v
 have hrw := fun k W => run_wordB k v hv W
 generalize wordB v = wb at hws hrw hres
 have q4 : ¬ 9223372036854775807 < wb.size + a.size := by omega
 go_cut [4] (fun v4 wx => v4 = .string (wb ++ a) ∧ Aside0 (wx.heap[w.heap.size]? = some (.cells #[.int .u8 v, .string a, .slice A l.length c] 27 (0, 0))) ∧ Aside0 (Below w.heap.size w wx))
 case first =>
  clear HRES hres HCALL
  go_region_held3 (fun W => W.cell? ⟨w.heap.size, 0, none⟩ = some (.int .u8 v) ∧ W.cell? ⟨w.heap.size, 1, none⟩ = some (.string a)) (first | exact ⟨hc0, hc1⟩ | exact ⟨hd0, hd1⟩) (first | (go_at_call 26; refine (words_calls _).mono ?_; rintro e w2 ⟨rfl, hb⟩; have hk := blk_below (w := w1.drew) HK.out hb; have HK2 := Aside0.mk hk; have HB2 := Aside0.mk (below_step (below_drew1 HB.out) hb); have hd0 : w2.cell? ⟨w.heap.size, 0, none⟩ = some (.int .u8 v) := blk_cell hk 0; have hd1 : w2.cell? ⟨w.heap.size, 1, none⟩ = some (.string a) := blk_cell hk 1; clear hb hk))
  try go_wp2
  go_meet
  case rel => exact ⟨rfl, HK2, HB2⟩
 case rest =>
  obtain ⟨rfl, HK3, HB3⟩ := hcut
  have hc0 : wc.cell? ⟨w.heap.size, 0, none⟩ = some (.int .u8 v) := blk_cell HK3.out 0
  have hc1 : wc.cell? ⟨w.heap.size, 1, none⟩ = some (.string a) := blk_cell HK3.out 1
  have q5 : ¬ 9223372036854775807 < wb.size + tl.size := by omega
  go_upto_region 4 with fail
  go_cut [24] (fun v24 wx => v24 = .bool (decide (v = 3 ∨ v = 4)) ∧ wx = wc)
  case first =>
   clear HRES hres HCALL
   by_cases h3 : v = 3
   ·have h3b : (v == 3) = true := by rw [h3]; rfl
    have hd : decide (v = 3 ∨ v = 4) = true := decide_eq_true (.inl h3)
    clear h3
    go_wp2
    go_meet
    case rel => exact ⟨by rw [hd], rfl⟩
   ·have h3b : (v == 3) = false := beq_eq_false_iff_ne.2 h3
    have hd : decide (v = 3 ∨ v = 4) = (v == 4) := by rw [Bool.eq_iff_iff]; simp [h3]
    clear h3
    go_wp2
    go_meet
    case rel => exact ⟨by rw [hd], rfl⟩
  case rest =>
   obtain ⟨rfl, rfl⟩ := hcut
   go_upto_if 24 with fail
   go_cut [4] (fun v4 wx => v4 = .string (wb ++ tl) ∧ Aside0 (wx.heap[w.heap.size]? = some (.cells #[.int .u8 v, .string a, .slice A l.length c] 27 (0, 0))) ∧ Aside0 (Below w.heap.size w wx))
   case first =>
    clear HRES hres HCALL
    by_cases h : v = 3 ∨ v = 4
    ·have hp := h34 h
     rw [decide_eq_true h]
     clear hno h34
     go_upto_region 5 with fail
     go_region_held3 (fun W => W.cell? ⟨w.heap.size, 0, none⟩ = some (.int .u8 v) ∧ W.cell? ⟨w.heap.size, 1, none⟩ = some (.string a)) (first | exact ⟨hc0, hc1⟩ | exact ⟨hd0, hd1⟩ | exact ⟨he0, he1⟩) (first
      | (go_at_call 26; refine (words_calls _).mono ?_; rintro e w2 ⟨rfl, hb⟩; have hk := blk_below (w := World.drew _) HK3.out hb; have HK2 := Aside0.mk hk; have HB2 := Aside0.mk (below_step (below_drew1 HB3.out) hb); have hd0 : w2.cell? ⟨w.heap.size, 0, none⟩ = some (.int .u8 v) := blk_cell hk 0; have hd1 : w2.cell? ⟨w.heap.size, 1, none⟩ = some (.string a) := blk_cell hk 1; clear hb hk)
      | (go_at_call 27; refine (addr_Path.calls a tl _ hp).mono ?_; rintro e w3 ⟨rfl, hb⟩; have hk := blk_below HK2.out hb; have HK4 := Aside0.mk hk; have HB4 := Aside0.mk (below_step HB2.out hb); have he0 : w3.cell? ⟨w.heap.size, 0, none⟩ = some (.int .u8 v) := blk_cell hk 0; have he1 : w3.cell? ⟨w.heap.size, 1, none⟩ = some (.string a) := blk_cell hk 1; clear hb hk))
     all_goals (try go_wp2); (try go_meet); exact ⟨rfl, HK4, HB4⟩
    ·have e := hno h
     rw [decide_eq_false h]
     go_wp2
     go_meet
     case rel => exact ⟨by rw [e], HK3, HB3⟩
   case rest =>
    clear hno h34 hc0 hc1 hrw q5 HK3 HB3
    obtain ⟨rfl, HK5, HB5⟩ := hcut
    have hk2 : wc.cell? ⟨w.heap.size, 2, none⟩ = some (.slice A l.length c) := blk_cell HK5.out 2
    have hs0 : (wb ++ tl).size ≤ 281474976710656 := by rw [ByteArray.size_append]; omega
    generalize wb ++ tl = s0 at hres hs0
    go_wp2
    go_loopg [4, 36] l.length (fun gk v4 v36 wr => ∃ (k : Nat) (s : ByteArray), k ≤ l.length ∧ l.length - k ≤ gk ∧ v4 = .string s ∧ v36 = .int .i64 k ∧ Aside0 (res = (l.drop k).foldl showP s) ∧ Aside0 (s.size ≤ 281474976710656 + k * 562949953421312) ∧ Aside0 (Below w.heap.size w wr))
    case atStart => exact ⟨0, s0, by omega, by omega, rfl, rfl, ⟨hres⟩, ⟨by omega⟩, HB5⟩
    case round =>
     obtain ⟨k, s, hk, hg, rfl, rfl, HF, HS, HB⟩ := hrel
     by_cases hlt : k < l.length
     ·have hltz : (k : Int) < (l.length : Int) := by omega
      obtain ⟨ad, rfl, hc0, hc1⟩ := at_T49 (Kd.C_below HR.out HB.out) k (by omega) hltz
      rw [show rd_T49 l (k : Int) = l.getD k z49 from by unfold rd_T49; rw [Int.toNat_natCast]] at hc0 hc1
      rw [Int.toNat_natCast] at hc0 hc1
      obtain ⟨z1, z2⟩ := HSZ.out k hlt
      have hd : l.drop k = l.getD k z49 :: l.drop (k + 1) := by rw [List.drop_eq_getElem_cons hlt, List.getD_eq_getElem?_getD, List.getElem?_eq_getElem hlt]; rfl
      have hF : res = (l.drop (k + 1)).foldl showP (showP s (l.getD k z49)) := by rw [HF.out, hd]; rfl
      have HF2 := Lib.hid hF
      have hS := HS.out
      clear hF hd HF HS
      have hsp : ∀ p : S49, p = l.getD k z49 → showP s p = if p.f1.toList.isEmpty = true then s ++ (⟨#[32]⟩ ++ p.f0) else (s ++ (⟨#[32]⟩ ++ p.f0)) ++ (⟨#[61]⟩ ++ p.f1) := fun p _ => rfl
      have hsp := Lib.hid (hsp _ rfl)
      generalize (l.getD k z49).f0 = nk at hc0 z1 hsp
      generalize (l.getD k z49).f1 = vk at hc1 z2 hsp
      have q1 : ¬ 9223372036854775807 < 1 + nk.size := by omega
      have q2 : ¬ 9223372036854775807 < s.size + (1 + nk.size) := by omega
      have q3 : ¬ 9223372036854775807 < 1 + vk.size := by omega
      have q4 : ¬ 9223372036854775807 < s.size + (1 + nk.size) + (1 + vk.size) := by omega
      cases hv0 : vk.toList.isEmpty with
      | true =>
       have HE : Aside0 (showP s (l.getD k z49) = s ++ (⟨#[32]⟩ ++ nk)) := ⟨by rw [hsp, if_pos hv0]⟩
       have HZ : Aside0 ((s ++ ((⟨#[32]⟩ : ByteArray) ++ nk)).size = s.size + (1 + nk.size)) := ⟨by rw [ByteArray.size_append, ByteArray.size_append]; rfl⟩
       clear hsp
       go_wp2
       go_roundg (l.length - (k + 1))
       case measure => omega
       case rel => exact ⟨k + 1, _, by omega, by omega, rfl, by go_num, ⟨by rw [HF2.out, HE.out]⟩, ⟨by rw [HZ.out]; omega⟩, ⟨by repeat (first | exact HB.out | apply below_alloc)⟩⟩
      | false =>
       have HE : Aside0 (showP s (l.getD k z49) = (s ++ (⟨#[32]⟩ ++ nk)) ++ (⟨#[61]⟩ ++ vk)) := ⟨by rw [hsp, hv0]; rfl⟩
       have HZ : Aside0 (((s ++ ((⟨#[32]⟩ : ByteArray) ++ nk)) ++ ((⟨#[61]⟩ : ByteArray) ++ vk)).size = s.size + (1 + nk.size) + (1 + vk.size)) := ⟨by simp only [ByteArray.size_append]; rfl⟩
       clear hsp
       go_wp2
       go_roundg (l.length - (k + 1))
       case measure => omega
       case rel => exact ⟨k + 1, _, by omega, by omega, rfl, by go_num, ⟨by rw [HF2.out, HE.out]⟩, ⟨by rw [HZ.out]; omega⟩, ⟨by repeat (first | exact HB.out | apply below_alloc)⟩⟩
     ·have hltz : ¬ (k : Int) < (l.length : Int) := by omega
      have he : k = l.length := by omega
      have hF : s = res := by rw [HF.out, he, List.drop_of_length_le (Nat.le_refl _)]; rfl
      subst hF
      clear HF he
      cases h510 : decide (510 < (s.size : Int)) with
      | true =>
       have HE : Aside0 ((⟨#[]⟩ : ByteArray) = r1 ∧ (40 : Int) = r2) := ⟨by have h := HRES; rw [if_pos (of_decide_eq_true h510)] at h; simpa [Hid] using h⟩
       go_wp2
       go_ret2
       exact ⟨by obtain ⟨rfl, rfl⟩ := HE.out; rfl, HB.out⟩
      | false =>
       have HE : Aside0 (s = r1 ∧ (0 : Int) = r2) := ⟨by have h := HRES; rw [if_neg (of_decide_eq_false h510)] at h; simpa [Hid] using h⟩
       go_wp2
       go_ret2
       exact ⟨by obtain ⟨rfl, rfl⟩ := HE.out; rfl, HB.out⟩
set_option maxHeartbeats 1000000 in
theorem show_no (v : Int) (a : ByteArray) (A : Option Addr) (c : Nat) (l : List S49) (w : World) (hr : Kd.C k49 w A l.length l) (hc : l.length ≤ c) (hm : cmd_May.f 1 v a l = some false) :
  Calls Tryd.prog 13 #[.agg #[.int .u8 v, .string a, .slice A l.length c]] w fun e w' => e = .returned (.tuple #[.string ⟨#[]⟩, .int .i64 4]) ∧ Below w.heap.size w w' := by
 have hcall : ∀ W, Below w.heap.size w W → Calls Tryd.prog 17 #[.agg #[.int .u8 v, .string a, .slice A l.length c]] W fun e w' => e = .returned (.bool false) ∧ Below W.heap.size W w' := fun W hb => cmd_May.calls 1 v a A c l false W (Kd.C_below hr hb) hc hm
 have HCALL := Aside0.mk hcall
 clear hr hcall hc
 go_enter Tryd.func13, Tryd.ntmps13
 go_wp2_with (go_at_call 17; refine (HCALL.out _ (below_alloc (Below.refl _ _) _)).mono ?_; rintro e w1 ⟨rfl, hb⟩; have HB := Aside0.mk (below_step (below_alloc (Below.refl w.heap.size w) _) hb); clear hb)
 go_ret2
 exact ⟨rfl, HB.out⟩
def cmd_Show.f (a0_0 : Int) (a0_1 : ByteArray) (l0_2 : List S49) : Option (ByteArray × Int) :=
 if l0_2.length ≤ 1000 ∧ plSmall l0_2 = true ∧ a0_1.size ≤ 140737488351232 then
  (cmd_May.f 1 a0_0 a0_1 l0_2).bind fun m => if m = true then
   (if a0_0 = 3 ∨ a0_0 = 4 then addr_Path.f a0_1 else some a0_1).bind fun tl => if tl.size ≤ 140737488351242 then some (if 510 < ((l0_2.foldl showP (wordB a0_0 ++ tl)).size : Int) then (⟨#[]⟩, 40) else (l0_2.foldl showP (wordB a0_0 ++ tl), 0)) else none
  else some (⟨#[]⟩, 4)
 else none
theorem cmd_Show.calls (a0_0 : Int) (a0_1 : ByteArray) (A0_2 : Option Addr) (c0_2 : Nat) (l0_2 : List S49) (r1 : ByteArray) (r2 : Int) (w : World) (hr0_2 : Kd.C k49 w A0_2 l0_2.length l0_2) (hc0_2 : l0_2.length ≤ c0_2) (h : cmd_Show.f a0_0 a0_1 l0_2 = some (r1, r2)) :
  Calls Tryd.prog 13 #[.agg #[.int .u8 a0_0, .string a0_1, .slice A0_2 l0_2.length c0_2]] w fun e w' => e = .returned (.tuple #[.string r1, .int .i64 r2]) ∧ Below w.heap.size w w' := by
 unfold cmd_Show.f at h
 split at h
 ·rename_i hs
  obtain ⟨m, hm, h⟩ := Option.bind_eq_some_iff.1 h
  cases m with
  | false =>
   rw [if_neg (by simp)] at h
   obtain ⟨rfl, rfl⟩ := Prod.mk.inj (Option.some.inj h)
   exact show_no a0_0 a0_1 A0_2 c0_2 l0_2 w hr0_2 hc0_2 hm
  | true =>
   rw [if_pos rfl] at h
   obtain ⟨tl, htl, h⟩ := Option.bind_eq_some_iff.1 h
   by_cases ht : tl.size ≤ 140737488351242
   ·rw [if_pos ht] at h
    exact show_yes a0_0 a0_1 A0_2 c0_2 l0_2 w hr0_2 hc0_2 hs.1 (plSmall_at hs.2.1) hs.2.2 hm tl ht (fun h34 => by rw [if_pos h34] at htl; exact htl) (fun h34 => by rw [if_neg h34] at htl; exact (Option.some.inj htl).symm) _ rfl r1 r2 (Option.some.inj h)
   ·rw [if_neg ht] at h; cases h
 ·cases h
end Go.Proofs.YtljkopbalejcgaaDoor.P
end
section
namespace Go.Proofs.YtljkopbalejcgaaDoor.P
open Go.RowKit Go.Proofs.YtljkopbalejcgaaDoorW.PrintWords Go.Proofs.YtljkopbalejcgaaDoorW.PrintLast Go.Proofs.YtljkopbalejcgaaDoorW.PrintMore
attribute [local go_sem] max2_int min2_int max_two min_two max_three min_three max_four min_four
set_option linter.unusedVariables false
set_option linter.unusedSimpArgs false
def mailroomlaw07_shown.f (a0_0 : Int) (a0_1 : ByteArray) (l0_2 : List (S49)) (a1 : Int) : Option (ByteArray) := (cmd_Show.f a0_0 a0_1 l0_2).bind fun bt112 => (if a1 = 0 then (if bt112.2 = 0 then (some bt112.1) else (some (⟨#[]⟩ : ByteArray))) else (some (⟨#[]⟩ : ByteArray)))
set_option maxHeartbeats 8000000 in
set_option maxRecDepth 100000 in
theorem mailroomlaw07_shown.calls (a0_0 : Int) (a0_1 : ByteArray) (A0_2 : Option Addr) (c0_2 : Nat) (l0_2 : List (S49)) (a1 : Int) (r : ByteArray) (w : World) (hr0_2 : Kd.C k49 w A0_2 l0_2.length l0_2) (hc0_2 : l0_2.length ≤ c0_2) (h : mailroomlaw07_shown.f a0_0 a0_1 l0_2 a1 = some r) :
  Calls Tryd.prog 10 #[.agg #[.int .u8 a0_0, .string a0_1, .slice A0_2 l0_2.length c0_2], .int .i64 a1] w fun e w' => e = .returned (.string r) ∧ Below w.heap.size w w' := by
 have hu27 := Tryd.underlying27
 have HR0_2 := Aside0.mk hr0_2
 have HC0_2 := Aside0.mk hc0_2
 clear hr0_2 hc0_2
 have HB := Aside0.mk (Below.refl w.heap.size w)
 have H : ((cmd_Show.f a0_0 a0_1 l0_2).bind fun bt112 => (if a1 = 0 then (if bt112.2 = 0 then (some bt112.1) else (some (⟨#[]⟩ : ByteArray))) else (some (⟨#[]⟩ : ByteArray)))) = some r := h
 clear h
 replace H := Option.bind_eq_some_iff.mp H
 obtain ⟨⟨t112, t113⟩, A30, H⟩ := H
 replace H : (if a1 = 0 then (if t113 = 0 then (some t112) else (some (⟨#[]⟩ : ByteArray))) else (some (⟨#[]⟩ : ByteArray))) = some r := H
 have A3 := Aside0.mk A30
 clear A30
 by_cases c4 : a1 = 0
 ·rw [if_pos c4] at H
  have c4b0 : (a1 == 0) = true := beq_iff_eq.mpr c4
  have c4b1 : (a1 != 0) = false := bne_eq_false_iff_eq.mpr c4
  clear c4
  by_cases c5 : t113 = 0
  ·rw [if_pos c5] at H
   have c5b0 : (t113 == 0) = true := beq_iff_eq.mpr c5
   have c5b1 : (t113 != 0) = false := bne_eq_false_iff_eq.mpr c5
   clear c5
   obtain rfl := Option.some.inj H
   go_enter Tryd.func10, Tryd.ntmps10
   go_wp2_with (first | ((with_reducible refine gate_dst (N := 2) rfl ?_); refine box_event ?hg (N := 2) ?hd (cs := #[.int .u8 a0_0, .string a0_1, .slice A0_2 l0_2.length c0_2]) (t := 27) ?hr ?_; (case hd => rfl); (case hg => rfl); (case hr => first | (go_simp; done) | (go_simp; rfl)); intro gb111 hg w6 hbox hb; have n0_ := Aside0.mk (below_step (by repeat (first | (with_reducible first | exact HB.out | apply below_alloc | apply pw_below_drewN | apply below_drew1) | exact HB.out)) hb); have n1_ := Aside0.mk (hbox); have n2_ := Aside0.mk ((by rw [hg]; exact (below_size (by repeat (first | (with_reducible first | exact HB.out | apply below_alloc | apply pw_below_drewN | apply below_drew1) | exact HB.out))) : w.heap.size ≤ gb111)); have n3_ := Aside0.mk ((by rw [hg]; exact (below_size (by repeat (first | (with_reducible first | exact HB.out | apply below_alloc | apply pw_below_drewN | apply below_drew1) | exact HB.out))) : w.heap.size ≤ gb111)); clear HB; have HB := n0_; have BK111 := n1_; have GW111 := n2_; have GE111 := n3_; clear n0_ n1_ n2_ n3_; clear hb hbox hg; have hcz7_0 : w6.cell? ⟨gb111, 0, none⟩ = some (.int .u8 a0_0) := (blk_cell BK111.out 0).trans rfl; have hcz7_1 : w6.cell? ⟨gb111, 1, none⟩ = some (.string a0_1) := (blk_cell BK111.out 1).trans rfl; have hcz7_2 : w6.cell? ⟨gb111, 2, none⟩ = some (.slice A0_2 l0_2.length c0_2) := (blk_cell BK111.out 2).trans rfl; have hfz7_0 := blk_frozen BK111.out 0; have hfz7_1 := blk_frozen BK111.out 1; have hfz7_2 := blk_frozen BK111.out 2) | ((with_reducible refine gate_callee (f := 13) rfl ?_); refine goesL_ (some 9) rfl rfl Tryd.func13 (by kernel_rfl) rfl #[.agg #[.int .u8 a0_0, .string a0_1, .slice A0_2 l0_2.length c0_2]] rfl (by (try simp only [List.map_toArray, List.map_cons, List.map_nil]); first | done | rfl | (simp only [List.length_drop, List.length_take]; rfl)) ?_; (with_reducible refine (cmd_Show.calls a0_0 a0_1 _ _ l0_2 t112 t113 _ ?side1 ?side2 A3.out).mono ?_); (case side1 => repeat (first | exact (Kd.C_below HR0_2.out HB.out) | (with_reducible refine Kd.C_alloc ?_ _) | (with_reducible refine Kd.C_drewN ?_ _) | (with_reducible refine Kd.C_drew ?_))); (case side2 => exact HC0_2.out); rintro e w8 ⟨rfl, hb⟩; refine ⟨_, rfl, ?_⟩; have n0_ := Aside0.mk (blk_below (g := gb111) (o := .cells #[.int .u8 a0_0, .string a0_1, .slice A0_2 l0_2.length c0_2] 27 (0, 0)) (by (with_reducible repeat (first | refine blk_drewN ?_ _ | refine blk_drew ?_ | refine blk_alloc ?_ _)); exact BK111.out) hb); have n1_ := Aside0.mk (below_step (by repeat (first | (with_reducible first | exact HB.out | apply below_alloc | apply pw_below_drewN | apply below_drew1 | refine below_set ?_ GE111.out) | exact HB.out)) hb); clear BK111; clear HB; have BK111 := n0_; have HB := n1_; clear n0_ n1_; (try clear hb); (try clear hb2); (try clear hk); (try clear hi)))
   go_ret
   exact ⟨by first | rfl | (simp [errW_none, errW_some] <;> rfl) | (simp [*, errW_none, errW_some] <;> rfl), by repeat (first | (with_reducible first | exact HB.out | apply below_alloc | apply pw_below_drewN | apply below_drew1 | refine below_set ?_ GE111.out) | exact HB.out)⟩
  ·rw [if_neg c5] at H
   have c5b0 : (t113 == 0) = false := beq_eq_false_iff_ne.mpr c5
   have c5b1 : (t113 != 0) = true := bne_iff_ne.mpr c5
   obtain rfl := Option.some.inj H
   go_enter Tryd.func10, Tryd.ntmps10
   go_wp2_with (first | ((with_reducible refine gate_dst (N := 2) rfl ?_); refine box_event ?hg (N := 2) ?hd (cs := #[.int .u8 a0_0, .string a0_1, .slice A0_2 l0_2.length c0_2]) (t := 27) ?hr ?_; (case hd => rfl); (case hg => rfl); (case hr => first | (go_simp; done) | (go_simp; rfl)); intro gb111 hg w9 hbox hb; have n0_ := Aside0.mk (below_step (by repeat (first | (with_reducible first | exact HB.out | apply below_alloc | apply pw_below_drewN | apply below_drew1) | exact HB.out)) hb); have n1_ := Aside0.mk (hbox); have n2_ := Aside0.mk ((by rw [hg]; exact (below_size (by repeat (first | (with_reducible first | exact HB.out | apply below_alloc | apply pw_below_drewN | apply below_drew1) | exact HB.out))) : w.heap.size ≤ gb111)); have n3_ := Aside0.mk ((by rw [hg]; exact (below_size (by repeat (first | (with_reducible first | exact HB.out | apply below_alloc | apply pw_below_drewN | apply below_drew1) | exact HB.out))) : w.heap.size ≤ gb111)); clear HB; have HB := n0_; have BK111 := n1_; have GW111 := n2_; have GE111 := n3_; clear n0_ n1_ n2_ n3_; clear hb hbox hg; have hcz10_0 : w9.cell? ⟨gb111, 0, none⟩ = some (.int .u8 a0_0) := (blk_cell BK111.out 0).trans rfl; have hcz10_1 : w9.cell? ⟨gb111, 1, none⟩ = some (.string a0_1) := (blk_cell BK111.out 1).trans rfl; have hcz10_2 : w9.cell? ⟨gb111, 2, none⟩ = some (.slice A0_2 l0_2.length c0_2) := (blk_cell BK111.out 2).trans rfl; have hfz10_0 := blk_frozen BK111.out 0; have hfz10_1 := blk_frozen BK111.out 1; have hfz10_2 := blk_frozen BK111.out 2) | ((with_reducible refine gate_callee (f := 13) rfl ?_); refine goesL_ (some 9) rfl rfl Tryd.func13 (by kernel_rfl) rfl #[.agg #[.int .u8 a0_0, .string a0_1, .slice A0_2 l0_2.length c0_2]] rfl (by (try simp only [List.map_toArray, List.map_cons, List.map_nil]); first | done | rfl | (simp only [List.length_drop, List.length_take]; rfl)) ?_; (with_reducible refine (cmd_Show.calls a0_0 a0_1 _ _ l0_2 t112 t113 _ ?side1 ?side2 A3.out).mono ?_); (case side1 => repeat (first | exact (Kd.C_below HR0_2.out HB.out) | (with_reducible refine Kd.C_alloc ?_ _) | (with_reducible refine Kd.C_drewN ?_ _) | (with_reducible refine Kd.C_drew ?_))); (case side2 => exact HC0_2.out); rintro e w11 ⟨rfl, hb⟩; refine ⟨_, rfl, ?_⟩; have n0_ := Aside0.mk (blk_below (g := gb111) (o := .cells #[.int .u8 a0_0, .string a0_1, .slice A0_2 l0_2.length c0_2] 27 (0, 0)) (by (with_reducible repeat (first | refine blk_drewN ?_ _ | refine blk_drew ?_ | refine blk_alloc ?_ _)); exact BK111.out) hb); have n1_ := Aside0.mk (below_step (by repeat (first | (with_reducible first | exact HB.out | apply below_alloc | apply pw_below_drewN | apply below_drew1 | refine below_set ?_ GE111.out) | exact HB.out)) hb); clear BK111; clear HB; have BK111 := n0_; have HB := n1_; clear n0_ n1_; (try clear hb); (try clear hb2); (try clear hk); (try clear hi)))
   go_ret
   exact ⟨by first | rfl | (simp [errW_none, errW_some] <;> rfl) | (simp [*, errW_none, errW_some] <;> rfl), by repeat (first | (with_reducible first | exact HB.out | apply below_alloc | apply pw_below_drewN | apply below_drew1 | refine below_set ?_ GE111.out) | exact HB.out)⟩
 ·rw [if_neg c4] at H
  have c4b0 : (a1 == 0) = false := beq_eq_false_iff_ne.mpr c4
  have c4b1 : (a1 != 0) = true := bne_iff_ne.mpr c4
  obtain rfl := Option.some.inj H
  go_enter Tryd.func10, Tryd.ntmps10
  go_wp2_with (first | ((with_reducible refine gate_dst (N := 2) rfl ?_); refine box_event ?hg (N := 2) ?hd (cs := #[.int .u8 a0_0, .string a0_1, .slice A0_2 l0_2.length c0_2]) (t := 27) ?hr ?_; (case hd => rfl); (case hg => rfl); (case hr => first | (go_simp; done) | (go_simp; rfl)); intro gb111 hg w12 hbox hb; have n0_ := Aside0.mk (below_step (by repeat (first | (with_reducible first | exact HB.out | apply below_alloc | apply pw_below_drewN | apply below_drew1) | exact HB.out)) hb); have n1_ := Aside0.mk (hbox); have n2_ := Aside0.mk ((by rw [hg]; exact (below_size (by repeat (first | (with_reducible first | exact HB.out | apply below_alloc | apply pw_below_drewN | apply below_drew1) | exact HB.out))) : w.heap.size ≤ gb111)); have n3_ := Aside0.mk ((by rw [hg]; exact (below_size (by repeat (first | (with_reducible first | exact HB.out | apply below_alloc | apply pw_below_drewN | apply below_drew1) | exact HB.out))) : w.heap.size ≤ gb111)); clear HB; have HB := n0_; have BK111 := n1_; have GW111 := n2_; have GE111 := n3_; clear n0_ n1_ n2_ n3_; clear hb hbox hg; have hcz13_0 : w12.cell? ⟨gb111, 0, none⟩ = some (.int .u8 a0_0) := (blk_cell BK111.out 0).trans rfl; have hcz13_1 : w12.cell? ⟨gb111, 1, none⟩ = some (.string a0_1) := (blk_cell BK111.out 1).trans rfl; have hcz13_2 : w12.cell? ⟨gb111, 2, none⟩ = some (.slice A0_2 l0_2.length c0_2) := (blk_cell BK111.out 2).trans rfl; have hfz13_0 := blk_frozen BK111.out 0; have hfz13_1 := blk_frozen BK111.out 1; have hfz13_2 := blk_frozen BK111.out 2) | ((with_reducible refine gate_callee (f := 13) rfl ?_); refine goesL_ (some 9) rfl rfl Tryd.func13 (by kernel_rfl) rfl #[.agg #[.int .u8 a0_0, .string a0_1, .slice A0_2 l0_2.length c0_2]] rfl (by (try simp only [List.map_toArray, List.map_cons, List.map_nil]); first | done | rfl | (simp only [List.length_drop, List.length_take]; rfl)) ?_; (with_reducible refine (cmd_Show.calls a0_0 a0_1 _ _ l0_2 t112 t113 _ ?side1 ?side2 A3.out).mono ?_); (case side1 => repeat (first | exact (Kd.C_below HR0_2.out HB.out) | (with_reducible refine Kd.C_alloc ?_ _) | (with_reducible refine Kd.C_drewN ?_ _) | (with_reducible refine Kd.C_drew ?_))); (case side2 => exact HC0_2.out); rintro e w14 ⟨rfl, hb⟩; refine ⟨_, rfl, ?_⟩; have n0_ := Aside0.mk (blk_below (g := gb111) (o := .cells #[.int .u8 a0_0, .string a0_1, .slice A0_2 l0_2.length c0_2] 27 (0, 0)) (by (with_reducible repeat (first | refine blk_drewN ?_ _ | refine blk_drew ?_ | refine blk_alloc ?_ _)); exact BK111.out) hb); have n1_ := Aside0.mk (below_step (by repeat (first | (with_reducible first | exact HB.out | apply below_alloc | apply pw_below_drewN | apply below_drew1 | refine below_set ?_ GE111.out) | exact HB.out)) hb); clear BK111; clear HB; have BK111 := n0_; have HB := n1_; clear n0_ n1_; (try clear hb); (try clear hb2); (try clear hk); (try clear hi)))
  go_ret
  exact ⟨by first | rfl | (simp [errW_none, errW_some] <;> rfl) | (simp [*, errW_none, errW_some] <;> rfl), by repeat (first | (with_reducible first | exact HB.out | apply below_alloc | apply pw_below_drewN | apply below_drew1 | refine below_set ?_ GE111.out) | exact HB.out)⟩
end Go.Proofs.YtljkopbalejcgaaDoor.P
end
section
set_option linter.unusedVariables false
set_option linter.unusedSimpArgs false
namespace Go.Proofs.YtljkopbalejcgaaDoor.P
open Go Go.RowKit Go.Lib Go.Proofs.YtljkopbalejcgaaDoorW.PrintWords
def getF (n : List UInt8) : List S49 → ByteArray × Bool
 | [] => (⟨#[]⟩, false)
 | p :: l => if p.f0.data.toList = n then (p.f1, true) else getF n l
theorem get_l (v : Int) (a : ByteArray) (l : List S49) (n : ByteArray) (hl : l.length ≤ 1000000) (i : Nat) (hi : i ≤ l.length) : EvF (fun k => cmd_Get.l0 k n l (l.length : Int) (i : Int)) (getF n.data.toList (l.drop i)) := by
 refine EvF.down (L := fun k i => cmd_Get.l0 k n l (l.length : Int) (i : Int)) (V := fun i => getF n.data.toList (l.drop i)) l.length (fun i hi ih => ?_) i hi
 by_cases h : i < l.length
 ·have hw : wrap64 ((i : Int) + 1) = ((i + 1 : Nat) : Int) := wrap64_small _ (by omega) (by omega)
  have hrd : rd_T49 l (i : Int) = l[i] := by
   unfold rd_T49; rw [Int.toNat_natCast, List.getD_eq_getElem?_getD, List.getElem?_eq_getElem h]; rfl
  refine EvF.succ (g := fun k => if l[i].f0.data.toList = n.data.toList then some (l[i].f1, true) else cmd_Get.l0 k n l (l.length : Int) ((i + 1 : Nat) : Int)) ?_ (fun k => ?_)
  ·show EvF _ (getF n.data.toList (l.drop i))
   rw [List.drop_eq_getElem_cons h]
   simp only [getF]
   by_cases hc : l[i].f0.data.toList = n.data.toList
   ·rw [if_pos hc]; exact EvF.of fun k => by rw [if_pos hc]
   ·rw [if_neg hc]; exact (ih h).congr fun k => by rw [if_neg hc]
  ·simp only [cmd_Get.l0]
   rw [if_pos (by omega), if_pos (by omega), if_pos (by omega), hrd, hw, Lib.toList_data, Lib.toList_data]
 ·refine EvF.succ_some fun k => ?_
  simp only [cmd_Get.l0]
  rw [if_neg (by omega), List.drop_of_length_le (by omega)]; rfl
theorem get_ev (v : Int) (a : ByteArray) (l : List S49) (n : ByteArray) (hl : l.length ≤ 1000000) : EvF (fun k => cmd_Get.f k v a l n) (getF n.data.toList l) := get_l v a l n hl 0 (Nat.zero_le _)
theorem addr_size (l : List UInt8) (h : (addrParse l).isSome = true) : l.length ≤ 320 := by
 unfold addrParse at h
 split at h
 ·simp at h
 ·rename_i h1
  split at h
  ·simp at h
  ·split at h
   ·simp at h
   ·rename_i d hd
    unfold foldName at hd
    split at hd
    ·rename_i hm
     unfold nameMay at hm
     rw [Bool.and_eq_true, Bool.and_eq_true, decide_eq_true_eq] at hm
     have hlen := hm.1.1
     unfold foldT at hlen
     rw [List.length_map] at hlen
     have h2 : ∀ s : List UInt8, s.length ≤ (Lib.trimSuffix s [46]).length + 1 := by
      intro s
      unfold Lib.trimSuffix
      split
      ·rw [List.length_take]; simp only [List.length_singleton]; omega
      ·omega
     have h3 := h2 (l.drop ((lastAt l).toNat + 1))
     rw [List.length_drop] at h3
     omega
    ·simp at hd
def rowSum (l : List S49) : Nat := (l.map fun p => p.f0.size + p.f1.size + 2).sum
theorem showP_size (l : List S49) : ∀ s : ByteArray, (l.foldl showP s).size ≤ s.size + rowSum l ∧ s.size ≤ (l.foldl showP s).size := by
 induction l with
 | nil => intro s; simp [rowSum]
 | cons p l ih =>
  intro s
  have h1 : (showP s p).size ≤ s.size + (p.f0.size + p.f1.size + 2) ∧ s.size ≤ (showP s p).size := by
   have e1 : (⟨#[32]⟩ : ByteArray).size = 1 := rfl
   have e2 : (⟨#[61]⟩ : ByteArray).size = 1 := rfl
   unfold showP
   split <;> simp only [ByteArray.size_append, e1, e2] <;> omega
  have h2 := ih (showP s p)
  have e : rowSum (p :: l) = (p.f0.size + p.f1.size + 2) + rowSum l := by simp [rowSum]
  rw [List.foldl_cons, e]
  omega
theorem toList_ne (a : ByteArray) (h : 0 < a.size) : ¬ a.toList = ([] : List UInt8) := by
 rw [Lib.toList_data]
 intro h'
 have := congrArg List.length h'
 rw [len_eq, List.length_nil] at this
 omega
theorem shown_ok (v : Int) (hv : v = 3 ∨ v = 4) (a : ByteArray) (ha : a.size ≤ 320) (row : List S49) (hl : row.length ≤ 3) (hs : plSmall row = true) (hb : rowSum row ≤ 150) (hm : cmd_May.f 1 v a row = some true)
  (hp : addr_Path.f a = some (((⟨#[60]⟩ : ByteArray) ++ a) ++ (⟨#[62]⟩ : ByteArray))) : ∃ t, mailroomlaw07_shown.f v a row 0 = some t ∧ ¬ t.toList = ([] : List UInt8) := by
 have e1 : (⟨#[60]⟩ : ByteArray).size = 1 := rfl
 have e2 : (⟨#[62]⟩ : ByteArray).size = 1 := rfl
 have ew : 0 < (wordB v).size ∧ (wordB v).size ≤ 10 := by rcases hv with rfl | rfl <;> decide
 have hsz : (wordB v ++ (((⟨#[60]⟩ : ByteArray) ++ a) ++ (⟨#[62]⟩ : ByteArray))).size = (wordB v).size + (a.size + 2) := by
  simp only [ByteArray.size_append, e1, e2]; omega
 have hsp := showP_size row (wordB v ++ (((⟨#[60]⟩ : ByteArray) ++ a) ++ (⟨#[62]⟩ : ByteArray)))
 rw [hsz] at hsp
 refine ⟨row.foldl showP (wordB v ++ (((⟨#[60]⟩ : ByteArray) ++ a) ++ (⟨#[62]⟩ : ByteArray))), ?_, toList_ne _ (by omega)⟩
 unfold mailroomlaw07_shown.f cmd_Show.f
 rw [if_pos ⟨by omega, hs, by omega⟩, hm]
 simp only [Option.bind_some]
 rw [if_pos trivial, if_pos hv, hp]
 simp only [Option.bind_some]
 rw [if_pos (by simp only [ByteArray.size_append, e1, e2]; omega), if_neg (by omega)]
 rfl
end Go.Proofs.YtljkopbalejcgaaDoor.P
end
section
namespace Go.Proofs.YtljkopbalejcgaaDoor.P
open Go.RowKit Go.Proofs.YtljkopbalejcgaaDoorW.PrintWords Go.Proofs.YtljkopbalejcgaaDoorW.PrintLast Go.Proofs.YtljkopbalejcgaaDoorW.PrintMore
attribute [local go_sem] max2_int min2_int max_two min_two max_three min_three max_four min_four
set_option linter.unusedVariables false
set_option linter.unusedSimpArgs false
open Go Go.Lib
set_option maxHeartbeats 2000000 in
set_option maxRecDepth 100000 in
theorem great_any (s : ByteArray) (w : World) (hs : s.size ≤ 140737488351232) :
  Calls Tryd.prog 29 #[.string s] w fun e w' => e = .returned (.string ⟨(s.data.toList.map upper).toArray⟩) ∧ Below w.heap.size w w' := by
 have hcv := _root_.Go.Lib.run_convert_string_bytes (P := Tryd.prog) w 9 59 5 s Tryd.underlying9 Tryd.underlying59 Tryd.underlying5
 have hrow := brow_conv w 5 s
 have hbel := below_conv w 5 s
 have hl := len_eq s
 generalize bytesWorld w 5 s = W1 at hcv hrow hbel
 generalize grownCap w s.size 0 5 = cap at hcv
 generalize s.data.toList = l at hrow hl ⊢
 have HR : Aside0 (BRow W1 w.heap.size l) := ⟨hrow⟩
 have HB : Aside0 (Below w.heap.size w W1) := ⟨hbel⟩
 have HL := Lib.hid hl
 clear hrow hbel hl
 go_enter Tryd.func29, Tryd.ntmps29
 go_wp2
 go_loopg [10] s.size (fun gk i wr => ∃ k : Nat, k ≤ s.size ∧ s.size - k ≤ gk ∧ i = .int .i64 k ∧ Aside0 (BRow wr w.heap.size (turned upper l k)) ∧ Aside0 (Below w.heap.size w wr))
 case atStart => exact ⟨0, by omega, by omega, rfl, ⟨by rw [turned_zero]; exact HR.out⟩, HB⟩
 case round =>
  clear HR HB hcv
  obtain ⟨k, hk, hg, rfl, HR, HB⟩ := hrel
  by_cases hlt : k < s.size
  ·have hlt' : k < l.length := by rw [HL.out]; exact hlt
   have hat := turned_at upper l k hlt'
   have hcell := HR.out k (by rw [turned_len]; exact hlt')
   rw [hat] at hcell
   obtain ⟨hc, hf⟩ := hcell
   have HS := Lib.hid (turned_succ upper l k hlt')
   have HK := Lib.hid (turned_keep upper l k hlt')
   have hu1 := @upper_t l[k]
   have hu2 := @upper_f l[k]
   generalize l[k] = c at hc HS HK hu1 hu2
   have HU1 := Lib.hid hu1
   have HU2 := Lib.hid hu2
   clear hat hu1 hu2
   have hb : 0 ≤ (c.toNat : Int) ∧ (c.toNat : Int) ≤ 255 := by have := c.toNat_lt; omega
   go_wp2
   all_goals
    go_roundg (s.size - (k + 1))
    case measure => omega
    case rel => first
     | exact ⟨k + 1, by omega, by omega, by go_num, ⟨by rw [← HS.out, show (c.toNat : Int) - 97 + 65 = ((upper c).toNat : Int) by rw [HU1.out ⟨by omega, by omega⟩]; omega]; exact brow_set HR.out k (by rw [turned_len]; exact hlt') (upper c)⟩, ⟨HB.out.setCell (p := ⟨w.heap.size, k, none⟩) (Nat.le_refl _) _⟩⟩
     | exact ⟨k + 1, by omega, by omega, by go_num, ⟨by rw [HK.out (HU2.out (by omega))]; exact HR.out⟩, HB⟩
  ·have e : k = s.size := by omega
   subst e
   have hs2 := brow_str (P := Tryd.prog) HR.out 59 5 9 Tryd.underlying59 Tryd.underlying5 Tryd.underlying9 cap
   rw [turned_len, HL.out, show turned upper l s.size = l.map upper by rw [← HL.out]; exact turned_all upper l] at hs2
   go_wp2
   go_ret
   exact ⟨rfl, HB.out⟩
def cmd_great.f (a : ByteArray) : Option ByteArray := if a.size ≤ 140737488351232 then some ⟨(a.data.toList.map upper).toArray⟩ else none
theorem cmd_great.calls (a : ByteArray) (r : ByteArray) (w : World) (h : cmd_great.f a = some r) :
  Calls Tryd.prog 29 #[.string a] w fun e w' => e = .returned (.string r) ∧ Below w.heap.size w w' := by
 unfold cmd_great.f at h
 split at h
 ·rename_i hs
  obtain rfl := Option.some.inj h
  exact great_any a w hs
 ·simp at h
end Go.Proofs.YtljkopbalejcgaaDoor.P
end
section
namespace Go.Proofs.YtljkopbalejcgaaDoor.P
open Go.RowKit Go.Proofs.YtljkopbalejcgaaDoorW.PrintWords Go.Proofs.YtljkopbalejcgaaDoorW.PrintLast Go.Proofs.YtljkopbalejcgaaDoorW.PrintMore
attribute [local go_sem] max2_int min2_int max_two min_two max_three min_three max_four min_four
set_option linter.unusedVariables false
set_option linter.unusedSimpArgs false
def stringslite_HasPrefix.f (a0 : ByteArray) (a1 : ByteArray) : Option (Bool) := if (a0.size : Int) ≥ (a1.size : Int) then (if 0 ≤ (a1.size : Int) then (if (a1.size : Int) ≤ (a0.size : Int) then (some ((a0.extract 0 ((a1.size : Int) : Int).toNat).toList == a1.toList)) else (none)) else (none)) else (some false)
set_option maxHeartbeats 8000000 in
set_option maxRecDepth 100000 in
theorem stringslite_HasPrefix.calls (a0 : ByteArray) (a1 : ByteArray) (r : Bool) (w : World) (h : stringslite_HasPrefix.f a0 a1 = some r) :
  Calls Tryd.prog 40 #[.string a0, .string a1] w fun e w' => e = .returned (.bool r) ∧ Drawn0 w w' := by
 have H : (if (a0.size : Int) ≥ (a1.size : Int) then (if 0 ≤ (a1.size : Int) then (if (a1.size : Int) ≤ (a0.size : Int) then (some ((a0.extract 0 ((a1.size : Int) : Int).toNat).toList == a1.toList)) else (none)) else (none)) else (some false)) = some r := h
 clear h
 by_cases c3 : (a0.size : Int) ≥ (a1.size : Int)
 ·rw [if_pos c3] at H
  have c3b0 : decide ((a1.size : Int) ≤ (a0.size : Int)) = true := decide_eq_true c3
  have c3b1 : decide (a1.size ≤ a0.size) = true := decide_eq_true (Int.ofNat_le.mp c3)
  clear c3
  by_cases c4 : 0 ≤ (a1.size : Int)
  ·rw [if_pos c4] at H
   have c4b0 := eq_true c4
   have c4b1 : decide (0 ≤ (a1.size : Int)) = true := decide_eq_true c4
   clear c4
   by_cases c5 : (a1.size : Int) ≤ (a0.size : Int)
   ·rw [if_pos c5] at H
    have c5b0 := eq_true c5
    have c5b1 : decide ((a1.size : Int) ≤ (a0.size : Int)) = true := decide_eq_true c5
    clear c5
    obtain rfl := Option.some.inj H
    go_enter Tryd.func40, Tryd.ntmps40
    go_wp2
    go_ret
    exact ⟨by first | rfl | (simp; done) | (simp [*]; done), by repeat (first | exact Drawn0.refl _ | apply Drawn0.step)⟩
   ·rw [if_neg c5] at H
    exact absurd H (by simp)
  ·rw [if_neg c4] at H
   exact absurd H (by simp)
 ·rw [if_neg c3] at H
  have c3b0 : decide ((a1.size : Int) ≤ (a0.size : Int)) = false := decide_eq_false c3
  have c3b1 : decide (a1.size ≤ a0.size) = false := decide_eq_false (fun h => c3 (Int.ofNat_le.mpr h))
  clear c3
  obtain rfl := Option.some.inj H
  go_enter Tryd.func40, Tryd.ntmps40
  go_wp2
  go_ret
  exact ⟨by first | rfl | (simp; done) | (simp [*]; done), by repeat (first | exact Drawn0.refl _ | apply Drawn0.step)⟩
end Go.Proofs.YtljkopbalejcgaaDoor.P
end
section
namespace Go.Proofs.YtljkopbalejcgaaDoor.P
open Go.RowKit Go.Proofs.YtljkopbalejcgaaDoorW.PrintWords Go.Proofs.YtljkopbalejcgaaDoorW.PrintLast Go.Proofs.YtljkopbalejcgaaDoorW.PrintMore
attribute [local go_sem] max2_int min2_int max_two min_two max_three min_three max_four min_four
set_option linter.unusedVariables false
set_option linter.unusedSimpArgs false
def stringslite_CutPrefix.f (a0 : ByteArray) (a1 : ByteArray) : Option (ByteArray × Bool) := (stringslite_HasPrefix.f a0 a1).bind fun t122 => (if t122 = true then (if 0 ≤ (a1.size : Int) then (if (a1.size : Int) ≤ (a0.size : Int) then (some (a0.extract ((a1.size : Int) : Int).toNat a0.size, true)) else (none)) else (none)) else (some (a0, false)))
set_option maxHeartbeats 8000000 in
set_option maxRecDepth 100000 in
theorem stringslite_CutPrefix.calls (a0 : ByteArray) (a1 : ByteArray) (r1 : ByteArray) (r2 : Bool) (w : World) (h : stringslite_CutPrefix.f a0 a1 = some (r1, r2)) :
  Calls Tryd.prog 54 #[.string a0, .string a1] w fun e w' => e = .returned (.tuple #[.string r1, .bool r2]) ∧ Drawn0 w w' := by
 have H : ((stringslite_HasPrefix.f a0 a1).bind fun t122 => (if t122 = true then (if 0 ≤ (a1.size : Int) then (if (a1.size : Int) ≤ (a0.size : Int) then (some (a0.extract ((a1.size : Int) : Int).toNat a0.size, true)) else (none)) else (none)) else (some (a0, false)))) = some (r1, r2) := h
 clear h
 replace H := Option.bind_eq_some_iff.mp H
 obtain ⟨t122, A30, H⟩ := H
 replace H : (if t122 = true then (if 0 ≤ (a1.size : Int) then (if (a1.size : Int) ≤ (a0.size : Int) then (some (a0.extract ((a1.size : Int) : Int).toNat a0.size, true)) else (none)) else (none)) else (some (a0, false))) = some (r1, r2) := H
 have A3 := Aside0.mk A30
 clear A30
 by_cases c4 : t122 = true
 ·subst c4
  have H1 : (if 0 ≤ (a1.size : Int) then (if (a1.size : Int) ≤ (a0.size : Int) then (some (a0.extract ((a1.size : Int) : Int).toNat a0.size, true)) else (none)) else (none)) = some (r1, r2) := by rw [if_pos rfl] at H; exact H
  clear H
  have H := H1
  clear H1
  by_cases c5 : 0 ≤ (a1.size : Int)
  ·rw [if_pos c5] at H
   have c5b0 := eq_true c5
   have c5b1 : decide (0 ≤ (a1.size : Int)) = true := decide_eq_true c5
   clear c5
   by_cases c6 : (a1.size : Int) ≤ (a0.size : Int)
   ·rw [if_pos c6] at H
    have c6b0 := eq_true c6
    have c6b1 : decide ((a1.size : Int) ≤ (a0.size : Int)) = true := decide_eq_true c6
    clear c6
    simp only [Option.some.injEq, Prod.mk.injEq] at H
    obtain ⟨rfl, rfl⟩ := H
    go_enter Tryd.func54, Tryd.ntmps54
    go_wp2_with (first | ((with_reducible refine gate_callee (f := 40) rfl ?_); refine goesL_ (some 8) rfl rfl Tryd.func40 (by kernel_rfl) rfl #[.string a0, .string a1] rfl (by (try simp only [List.map_toArray, List.map_cons, List.map_nil]); first | done | rfl | (simp only [List.length_drop, List.length_take]; rfl)) ?_; (with_reducible refine (stringslite_HasPrefix.calls a0 a1 true _ A3.out).mono ?_); rintro e w' ⟨rfl, ⟨nd, rfl⟩⟩; refine ⟨_, rfl, ?_⟩))
    go_ret2
    exact ⟨by first | rfl | (simp; done) | (simp [*]; done), by repeat (first | exact Drawn0.refl _ | apply Drawn0.step)⟩
   ·rw [if_neg c6] at H
    exact absurd H (by simp)
  ·rw [if_neg c5] at H
   exact absurd H (by simp)
 ·replace c4 := Bool.eq_false_iff.mpr c4
  subst c4
  have H1 : (some (a0, false)) = some (r1, r2) := by rw [if_neg (show ¬ (false = true) by decide)] at H; exact H
  clear H
  have H := H1
  clear H1
  simp only [Option.some.injEq, Prod.mk.injEq] at H
  obtain ⟨rfl, rfl⟩ := H
  go_enter Tryd.func54, Tryd.ntmps54
  go_wp2_with (first | ((with_reducible refine gate_callee (f := 40) rfl ?_); refine goesL_ (some 8) rfl rfl Tryd.func40 (by kernel_rfl) rfl #[.string a0, .string a1] rfl (by (try simp only [List.map_toArray, List.map_cons, List.map_nil]); first | done | rfl | (simp only [List.length_drop, List.length_take]; rfl)) ?_; (with_reducible refine (stringslite_HasPrefix.calls a0 a1 false _ A3.out).mono ?_); rintro e w' ⟨rfl, ⟨nd, rfl⟩⟩; refine ⟨_, rfl, ?_⟩))
  go_ret2
  exact ⟨by first | rfl | (simp; done) | (simp [*]; done), by repeat (first | exact Drawn0.refl _ | apply Drawn0.step)⟩
end Go.Proofs.YtljkopbalejcgaaDoor.P
end
section
namespace Go.Proofs.YtljkopbalejcgaaDoor.P
open Go.RowKit Go.Proofs.YtljkopbalejcgaaDoorW.PrintWords Go.Proofs.YtljkopbalejcgaaDoorW.PrintLast Go.Proofs.YtljkopbalejcgaaDoorW.PrintMore
attribute [local go_sem] max2_int min2_int max_two min_two max_three min_three max_four min_four
set_option linter.unusedVariables false
set_option linter.unusedSimpArgs false
def strings_CutPrefix.f (a0 : ByteArray) (a1 : ByteArray) : Option (ByteArray × Bool) := (stringslite_CutPrefix.f a0 a1).bind fun bt123 => (some (bt123.1, bt123.2))
set_option maxHeartbeats 8000000 in
set_option maxRecDepth 100000 in
theorem strings_CutPrefix.calls (a0 : ByteArray) (a1 : ByteArray) (r1 : ByteArray) (r2 : Bool) (w : World) (h : strings_CutPrefix.f a0 a1 = some (r1, r2)) :
  Calls Tryd.prog 43 #[.string a0, .string a1] w fun e w' => e = .returned (.tuple #[.string r1, .bool r2]) ∧ Drawn0 w w' := by
 have H : ((stringslite_CutPrefix.f a0 a1).bind fun bt123 => (some (bt123.1, bt123.2))) = some (r1, r2) := h
 clear h
 replace H := Option.bind_eq_some_iff.mp H
 obtain ⟨⟨t123, t124⟩, A30, H⟩ := H
 replace H : (some (t123, t124)) = some (r1, r2) := H
 have A3 := Aside0.mk A30
 clear A30
 simp only [Option.some.injEq, Prod.mk.injEq] at H
 obtain ⟨rfl, rfl⟩ := H
 go_enter Tryd.func43, Tryd.ntmps43
 go_wp2_with (first | ((with_reducible refine gate_callee (f := 54) rfl ?_); refine goesL_ (some 8) rfl rfl Tryd.func54 (by kernel_rfl) rfl #[.string a0, .string a1] rfl (by (try simp only [List.map_toArray, List.map_cons, List.map_nil]); first | done | rfl | (simp only [List.length_drop, List.length_take]; rfl)) ?_; (with_reducible refine (stringslite_CutPrefix.calls a0 a1 t123 t124 _ A3.out).mono ?_); rintro e w' ⟨rfl, ⟨nd, rfl⟩⟩; refine ⟨_, rfl, ?_⟩))
 go_ret2
 exact ⟨by first | rfl | (simp; done) | (simp [*]; done), by repeat (first | exact Drawn0.refl _ | apply Drawn0.step)⟩
end Go.Proofs.YtljkopbalejcgaaDoor.P
end
section
namespace Go.Proofs.YtljkopbalejcgaaDoor.P
open Go.RowKit Go.Proofs.YtljkopbalejcgaaDoorW.PrintWords Go.Proofs.YtljkopbalejcgaaDoorW.PrintLast Go.Proofs.YtljkopbalejcgaaDoorW.PrintMore
attribute [local go_sem] max2_int min2_int max_two min_two max_three min_three max_four min_four
set_option linter.unusedVariables false
set_option linter.unusedSimpArgs false
def stringslite_HasSuffix.f (a0 : ByteArray) (a1 : ByteArray) : Option (Bool) := if (a0.size : Int) ≥ (a1.size : Int) then (if 0 ≤ (wrap64 ((a0.size : Int) - (a1.size : Int))) then (if (wrap64 ((a0.size : Int) - (a1.size : Int))) ≤ (a0.size : Int) then (some ((a0.extract ((wrap64 ((a0.size : Int) - (a1.size : Int))) : Int).toNat a0.size).toList == a1.toList)) else (none)) else (none)) else (some false)
set_option maxHeartbeats 8000000 in
set_option maxRecDepth 100000 in
theorem stringslite_HasSuffix.calls (a0 : ByteArray) (a1 : ByteArray) (r : Bool) (w : World) (h : stringslite_HasSuffix.f a0 a1 = some r) :
  Calls Tryd.prog 46 #[.string a0, .string a1] w fun e w' => e = .returned (.bool r) ∧ Drawn0 w w' := by
 have H : (if (a0.size : Int) ≥ (a1.size : Int) then (if 0 ≤ (wrap64 ((a0.size : Int) - (a1.size : Int))) then (if (wrap64 ((a0.size : Int) - (a1.size : Int))) ≤ (a0.size : Int) then (some ((a0.extract ((wrap64 ((a0.size : Int) - (a1.size : Int))) : Int).toNat a0.size).toList == a1.toList)) else (none)) else (none)) else (some false)) = some r := h
 clear h
 by_cases c3 : (a0.size : Int) ≥ (a1.size : Int)
 ·rw [if_pos c3] at H
  have c3b0 : decide ((a1.size : Int) ≤ (a0.size : Int)) = true := decide_eq_true c3
  have c3b1 : decide (a1.size ≤ a0.size) = true := decide_eq_true (Int.ofNat_le.mp c3)
  clear c3
  obtain ⟨ji4, hji4⟩ : ∃ j_ : Int, (wrap64 ((a0.size : Int) - (a1.size : Int))) = j_ := ⟨_, rfl⟩
  replace H : (if 0 ≤ (ji4) then (if (ji4) ≤ (a0.size : Int) then (some ((a0.extract ((ji4) : Int).toNat a0.size).toList == a1.toList)) else (none)) else (none)) = some r := by first | (rw [hji4] at H; exact H) | (simp only [hji4] at H ⊢; exact H)
  have hji4w : (IntKind.i64.wrap ((a0.size : Int) - (a1.size : Int))) = ji4 := (i64_w _).trans hji4
  by_cases c5 : 0 ≤ (ji4)
  ·rw [if_pos c5] at H
   have c5b0 := eq_true c5
   have c5b1 : decide (0 ≤ (ji4)) = true := decide_eq_true c5
   clear c5
   by_cases c6 : (ji4) ≤ (a0.size : Int)
   ·rw [if_pos c6] at H
    have c6b0 := eq_true c6
    have c6b1 : decide ((ji4) ≤ (a0.size : Int)) = true := decide_eq_true c6
    clear c6
    obtain rfl := Option.some.inj H
    go_enter Tryd.func46, Tryd.ntmps46
    go_wp2
    go_ret
    exact ⟨by first | rfl | (simp; done) | (simp only [← hji4] <;> (first | rfl | simp)) | (simp [*]; done), by repeat (first | exact Drawn0.refl _ | apply Drawn0.step)⟩
   ·rw [if_neg c6] at H
    exact absurd H (by simp)
  ·rw [if_neg c5] at H
   exact absurd H (by simp)
 ·rw [if_neg c3] at H
  have c3b0 : decide ((a1.size : Int) ≤ (a0.size : Int)) = false := decide_eq_false c3
  have c3b1 : decide (a1.size ≤ a0.size) = false := decide_eq_false (fun h => c3 (Int.ofNat_le.mpr h))
  clear c3
  obtain rfl := Option.some.inj H
  go_enter Tryd.func46, Tryd.ntmps46
  go_wp2
  go_ret
  exact ⟨by first | rfl | (simp; done) | (simp [*]; done), by repeat (first | exact Drawn0.refl _ | apply Drawn0.step)⟩
end Go.Proofs.YtljkopbalejcgaaDoor.P
end
section
namespace Go.Proofs.YtljkopbalejcgaaDoor.P
open Go.RowKit Go.Proofs.YtljkopbalejcgaaDoorW.PrintWords Go.Proofs.YtljkopbalejcgaaDoorW.PrintLast Go.Proofs.YtljkopbalejcgaaDoorW.PrintMore
attribute [local go_sem] max2_int min2_int max_two min_two max_three min_three max_four min_four
set_option linter.unusedVariables false
set_option linter.unusedSimpArgs false
def stringslite_CutSuffix.f (a0 : ByteArray) (a1 : ByteArray) : Option (ByteArray × Bool) := (stringslite_HasSuffix.f a0 a1).bind fun t125 => (if t125 = true then (if 0 ≤ (wrap64 ((a0.size : Int) - (a1.size : Int))) then (if (wrap64 ((a0.size : Int) - (a1.size : Int))) ≤ (a0.size : Int) then (some (a0.extract 0 ((wrap64 ((a0.size : Int) - (a1.size : Int))) : Int).toNat, true)) else (none)) else (none)) else (some (a0, false)))
set_option maxHeartbeats 8000000 in
set_option maxRecDepth 100000 in
theorem stringslite_CutSuffix.calls (a0 : ByteArray) (a1 : ByteArray) (r1 : ByteArray) (r2 : Bool) (w : World) (h : stringslite_CutSuffix.f a0 a1 = some (r1, r2)) :
  Calls Tryd.prog 65 #[.string a0, .string a1] w fun e w' => e = .returned (.tuple #[.string r1, .bool r2]) ∧ Drawn0 w w' := by
 have H : ((stringslite_HasSuffix.f a0 a1).bind fun t125 => (if t125 = true then (if 0 ≤ (wrap64 ((a0.size : Int) - (a1.size : Int))) then (if (wrap64 ((a0.size : Int) - (a1.size : Int))) ≤ (a0.size : Int) then (some (a0.extract 0 ((wrap64 ((a0.size : Int) - (a1.size : Int))) : Int).toNat, true)) else (none)) else (none)) else (some (a0, false)))) = some (r1, r2) := h
 clear h
 replace H := Option.bind_eq_some_iff.mp H
 obtain ⟨t125, A30, H⟩ := H
 replace H : (if t125 = true then (if 0 ≤ (wrap64 ((a0.size : Int) - (a1.size : Int))) then (if (wrap64 ((a0.size : Int) - (a1.size : Int))) ≤ (a0.size : Int) then (some (a0.extract 0 ((wrap64 ((a0.size : Int) - (a1.size : Int))) : Int).toNat, true)) else (none)) else (none)) else (some (a0, false))) = some (r1, r2) := H
 have A3 := Aside0.mk A30
 clear A30
 by_cases c4 : t125 = true
 ·subst c4
  have H1 : (if 0 ≤ (wrap64 ((a0.size : Int) - (a1.size : Int))) then (if (wrap64 ((a0.size : Int) - (a1.size : Int))) ≤ (a0.size : Int) then (some (a0.extract 0 ((wrap64 ((a0.size : Int) - (a1.size : Int))) : Int).toNat, true)) else (none)) else (none)) = some (r1, r2) := by rw [if_pos rfl] at H; exact H
  clear H
  have H := H1
  clear H1
  obtain ⟨ji5, hji5⟩ : ∃ j_ : Int, (wrap64 ((a0.size : Int) - (a1.size : Int))) = j_ := ⟨_, rfl⟩
  replace H : (if 0 ≤ (ji5) then (if (ji5) ≤ (a0.size : Int) then (some (a0.extract 0 ((ji5) : Int).toNat, true)) else (none)) else (none)) = some (r1, r2) := by first | (rw [hji5] at H; exact H) | (simp only [hji5] at H ⊢; exact H)
  (try rw [hji5] at A3)
  have hji5w : (IntKind.i64.wrap ((a0.size : Int) - (a1.size : Int))) = ji5 := (i64_w _).trans hji5
  by_cases c6 : 0 ≤ (ji5)
  ·rw [if_pos c6] at H
   have c6b0 := eq_true c6
   have c6b1 : decide (0 ≤ (ji5)) = true := decide_eq_true c6
   clear c6
   by_cases c7 : (ji5) ≤ (a0.size : Int)
   ·rw [if_pos c7] at H
    have c7b0 := eq_true c7
    have c7b1 : decide ((ji5) ≤ (a0.size : Int)) = true := decide_eq_true c7
    clear c7
    simp only [Option.some.injEq, Prod.mk.injEq] at H
    obtain ⟨rfl, rfl⟩ := H
    go_enter Tryd.func65, Tryd.ntmps65
    go_wp2_with (first | ((with_reducible refine gate_callee (f := 46) rfl ?_); refine goesL_ (some 8) rfl rfl Tryd.func46 (by kernel_rfl) rfl #[.string a0, .string a1] rfl (by (try simp only [List.map_toArray, List.map_cons, List.map_nil]); first | done | rfl | (simp only [List.length_drop, List.length_take]; rfl)) ?_; (with_reducible refine (stringslite_HasSuffix.calls a0 a1 true _ A3.out).mono ?_); rintro e w' ⟨rfl, ⟨nd, rfl⟩⟩; refine ⟨_, rfl, ?_⟩))
    go_ret2
    exact ⟨by first | rfl | (simp; done) | (simp only [← hji5] <;> (first | rfl | simp)) | (simp [*]; done), by repeat (first | exact Drawn0.refl _ | apply Drawn0.step)⟩
   ·rw [if_neg c7] at H
    exact absurd H (by simp)
  ·rw [if_neg c6] at H
   exact absurd H (by simp)
 ·replace c4 := Bool.eq_false_iff.mpr c4
  subst c4
  have H1 : (some (a0, false)) = some (r1, r2) := by rw [if_neg (show ¬ (false = true) by decide)] at H; exact H
  clear H
  have H := H1
  clear H1
  simp only [Option.some.injEq, Prod.mk.injEq] at H
  obtain ⟨rfl, rfl⟩ := H
  go_enter Tryd.func65, Tryd.ntmps65
  go_wp2_with (first | ((with_reducible refine gate_callee (f := 46) rfl ?_); refine goesL_ (some 8) rfl rfl Tryd.func46 (by kernel_rfl) rfl #[.string a0, .string a1] rfl (by (try simp only [List.map_toArray, List.map_cons, List.map_nil]); first | done | rfl | (simp only [List.length_drop, List.length_take]; rfl)) ?_; (with_reducible refine (stringslite_HasSuffix.calls a0 a1 false _ A3.out).mono ?_); rintro e w' ⟨rfl, ⟨nd, rfl⟩⟩; refine ⟨_, rfl, ?_⟩))
  go_ret2
  exact ⟨by first | rfl | (simp; done) | (simp [*]; done), by repeat (first | exact Drawn0.refl _ | apply Drawn0.step)⟩
end Go.Proofs.YtljkopbalejcgaaDoor.P
end
section
namespace Go.Proofs.YtljkopbalejcgaaDoor.P
open Go.RowKit Go.Proofs.YtljkopbalejcgaaDoorW.PrintWords Go.Proofs.YtljkopbalejcgaaDoorW.PrintLast Go.Proofs.YtljkopbalejcgaaDoorW.PrintMore
attribute [local go_sem] max2_int min2_int max_two min_two max_three min_three max_four min_four
set_option linter.unusedVariables false
set_option linter.unusedSimpArgs false
def strings_CutSuffix.f (a0 : ByteArray) (a1 : ByteArray) : Option (ByteArray × Bool) := (stringslite_CutSuffix.f a0 a1).bind fun bt126 => (some (bt126.1, bt126.2))
set_option maxHeartbeats 8000000 in
set_option maxRecDepth 100000 in
theorem strings_CutSuffix.calls (a0 : ByteArray) (a1 : ByteArray) (r1 : ByteArray) (r2 : Bool) (w : World) (h : strings_CutSuffix.f a0 a1 = some (r1, r2)) :
  Calls Tryd.prog 53 #[.string a0, .string a1] w fun e w' => e = .returned (.tuple #[.string r1, .bool r2]) ∧ Drawn0 w w' := by
 have H : ((stringslite_CutSuffix.f a0 a1).bind fun bt126 => (some (bt126.1, bt126.2))) = some (r1, r2) := h
 clear h
 replace H := Option.bind_eq_some_iff.mp H
 obtain ⟨⟨t126, t127⟩, A30, H⟩ := H
 replace H : (some (t126, t127)) = some (r1, r2) := H
 have A3 := Aside0.mk A30
 clear A30
 simp only [Option.some.injEq, Prod.mk.injEq] at H
 obtain ⟨rfl, rfl⟩ := H
 go_enter Tryd.func53, Tryd.ntmps53
 go_wp2_with (first | ((with_reducible refine gate_callee (f := 65) rfl ?_); refine goesL_ (some 8) rfl rfl Tryd.func65 (by kernel_rfl) rfl #[.string a0, .string a1] rfl (by (try simp only [List.map_toArray, List.map_cons, List.map_nil]); first | done | rfl | (simp only [List.length_drop, List.length_take]; rfl)) ?_; (with_reducible refine (stringslite_CutSuffix.calls a0 a1 t126 t127 _ A3.out).mono ?_); rintro e w' ⟨rfl, ⟨nd, rfl⟩⟩; refine ⟨_, rfl, ?_⟩))
 go_ret2
 exact ⟨by first | rfl | (simp; done) | (simp [*]; done), by repeat (first | exact Drawn0.refl _ | apply Drawn0.step)⟩
end Go.Proofs.YtljkopbalejcgaaDoor.P
end
section
namespace Go.Proofs.YtljkopbalejcgaaDoor.P
open Go.RowKit Go.Proofs.YtljkopbalejcgaaDoorW.PrintWords Go.Proofs.YtljkopbalejcgaaDoorW.PrintLast Go.Proofs.YtljkopbalejcgaaDoorW.PrintMore
attribute [local go_sem] max2_int min2_int max_two min_two max_three min_three max_four min_four
set_option linter.unusedVariables false
set_option linter.unusedSimpArgs false
def addr_Unpath.f (a0 : ByteArray) : Option (ByteArray × Int) := (strings_CutPrefix.f a0 (⟨#[60]⟩ : ByteArray)).bind fun bt128 => ((strings_CutSuffix.f bt128.1 (⟨#[62]⟩ : ByteArray)).bind fun bt130 => (if bt128.2 = true then (if bt130.2 = true then ((addr_Path.f bt130.1).bind fun t132 => (if t132.toList = ([] : List UInt8) then (some ((⟨#[]⟩ : ByteArray), 4)) else (some (bt130.1, 0)))) else (some ((⟨#[]⟩ : ByteArray), 4))) else (some ((⟨#[]⟩ : ByteArray), 4))))
set_option maxHeartbeats 8000000 in
set_option maxRecDepth 100000 in
theorem addr_Unpath.calls (a0 : ByteArray) (r1 : ByteArray) (r2 : Int) (w : World) (h : addr_Unpath.f a0 = some (r1, r2)) :
  Calls Tryd.prog 41 #[.string a0] w fun e w' => e = .returned (.tuple #[.string r1, .int .i64 r2]) ∧ Below w.heap.size w w' := by
 have HB := Aside0.mk (Below.refl w.heap.size w)
 have H : ((strings_CutPrefix.f a0 (⟨#[60]⟩ : ByteArray)).bind fun bt128 => ((strings_CutSuffix.f bt128.1 (⟨#[62]⟩ : ByteArray)).bind fun bt130 => (if bt128.2 = true then (if bt130.2 = true then ((addr_Path.f bt130.1).bind fun t132 => (if t132.toList = ([] : List UInt8) then (some ((⟨#[]⟩ : ByteArray), 4)) else (some (bt130.1, 0)))) else (some ((⟨#[]⟩ : ByteArray), 4))) else (some ((⟨#[]⟩ : ByteArray), 4))))) = some (r1, r2) := h
 clear h
 replace H := Option.bind_eq_some_iff.mp H
 obtain ⟨⟨t128, t129⟩, A20, H⟩ := H
 replace H : ((strings_CutSuffix.f t128 (⟨#[62]⟩ : ByteArray)).bind fun bt130 => (if t129 = true then (if bt130.2 = true then ((addr_Path.f bt130.1).bind fun t132 => (if t132.toList = ([] : List UInt8) then (some ((⟨#[]⟩ : ByteArray), 4)) else (some (bt130.1, 0)))) else (some ((⟨#[]⟩ : ByteArray), 4))) else (some ((⟨#[]⟩ : ByteArray), 4)))) = some (r1, r2) := H
 have A2 := Aside0.mk A20
 clear A20
 replace H := Option.bind_eq_some_iff.mp H
 obtain ⟨⟨t130, t131⟩, A30, H⟩ := H
 replace H : (if t129 = true then (if t131 = true then ((addr_Path.f t130).bind fun t132 => (if t132.toList = ([] : List UInt8) then (some ((⟨#[]⟩ : ByteArray), 4)) else (some (t130, 0)))) else (some ((⟨#[]⟩ : ByteArray), 4))) else (some ((⟨#[]⟩ : ByteArray), 4))) = some (r1, r2) := H
 have A3 := Aside0.mk A30
 clear A30
 by_cases c4 : t129 = true
 ·subst c4
  have H1 : (if t131 = true then ((addr_Path.f t130).bind fun t132 => (if t132.toList = ([] : List UInt8) then (some ((⟨#[]⟩ : ByteArray), 4)) else (some (t130, 0)))) else (some ((⟨#[]⟩ : ByteArray), 4))) = some (r1, r2) := by rw [if_pos rfl] at H; exact H
  clear H
  have H := H1
  clear H1
  by_cases c5 : t131 = true
  ·subst c5
   have H1 : ((addr_Path.f t130).bind fun t132 => (if t132.toList = ([] : List UInt8) then (some ((⟨#[]⟩ : ByteArray), 4)) else (some (t130, 0)))) = some (r1, r2) := by rw [if_pos rfl] at H; exact H
   clear H
   have H := H1
   clear H1
   replace H := Option.bind_eq_some_iff.mp H
   obtain ⟨t132, A60, H⟩ := H
   replace H : (if t132.toList = ([] : List UInt8) then (some ((⟨#[]⟩ : ByteArray), 4)) else (some (t130, 0))) = some (r1, r2) := H
   have A6 := Aside0.mk A60
   clear A60
   by_cases c7 : t132.toList = ([] : List UInt8)
   ·rw [if_pos c7] at H
    have c7b0 : (t132.toList == ([] : List UInt8)) = true := beq_iff_eq.mpr c7
    have c7b1 : (t132.toList != ([] : List UInt8)) = false := bne_eq_false_iff_eq.mpr c7
    clear c7
    simp only [Option.some.injEq, Prod.mk.injEq] at H
    obtain ⟨rfl, rfl⟩ := H
    go_enter Tryd.func41, Tryd.ntmps41
    go_wp2_with (first | ((with_reducible refine gate_callee (f := 43) rfl ?_); refine goesL_ (some 9) rfl rfl Tryd.func43 (by kernel_rfl) rfl #[.string a0, .string (⟨#[60]⟩ : ByteArray)] rfl (by (try simp only [List.map_toArray, List.map_cons, List.map_nil]); first | done | rfl | (simp only [List.length_drop, List.length_take]; rfl)) ?_; (with_reducible refine (strings_CutPrefix.calls a0 (⟨#[60]⟩ : ByteArray) t128 true _ A2.out).mono ?_); rintro e w' ⟨rfl, ⟨nd, rfl⟩⟩; refine ⟨_, rfl, ?_⟩) | ((with_reducible refine gate_callee (f := 53) rfl ?_); refine goesL_ (some 14) rfl rfl Tryd.func53 (by kernel_rfl) rfl #[.string t128, .string (⟨#[62]⟩ : ByteArray)] rfl (by (try simp only [List.map_toArray, List.map_cons, List.map_nil]); first | done | rfl | (simp only [List.length_drop, List.length_take]; rfl)) ?_; (with_reducible refine (strings_CutSuffix.calls t128 (⟨#[62]⟩ : ByteArray) t130 true _ A3.out).mono ?_); rintro e w' ⟨rfl, ⟨nd, rfl⟩⟩; refine ⟨_, rfl, ?_⟩) | (go_at_call 27; (with_reducible refine (addr_Path.calls t130 t132 _ A6.out).mono ?_); rintro e w8 ⟨rfl, hb⟩; have n0_ := Aside0.mk (below_step (by repeat (first | (with_reducible first | exact HB.out | apply below_alloc | apply pw_below_drewN | apply below_drew1) | exact HB.out)) hb); clear HB; have HB := n0_; clear n0_; (try clear hb); (try clear hb2); (try clear hk); (try clear hi)))
    go_ret2
    exact ⟨by first | rfl | (simp [errW_none, errW_some] <;> rfl) | (simp [*, errW_none, errW_some] <;> rfl), by repeat (first | (with_reducible first | exact HB.out | apply below_alloc | apply pw_below_drewN | apply below_drew1) | exact HB.out)⟩
   ·rw [if_neg c7] at H
    have c7b0 : (t132.toList == ([] : List UInt8)) = false := beq_eq_false_iff_ne.mpr c7
    have c7b1 : (t132.toList != ([] : List UInt8)) = true := bne_iff_ne.mpr c7
    simp only [Option.some.injEq, Prod.mk.injEq] at H
    obtain ⟨rfl, rfl⟩ := H
    go_enter Tryd.func41, Tryd.ntmps41
    go_wp2_with (first | ((with_reducible refine gate_callee (f := 43) rfl ?_); refine goesL_ (some 9) rfl rfl Tryd.func43 (by kernel_rfl) rfl #[.string a0, .string (⟨#[60]⟩ : ByteArray)] rfl (by (try simp only [List.map_toArray, List.map_cons, List.map_nil]); first | done | rfl | (simp only [List.length_drop, List.length_take]; rfl)) ?_; (with_reducible refine (strings_CutPrefix.calls a0 (⟨#[60]⟩ : ByteArray) t128 true _ A2.out).mono ?_); rintro e w' ⟨rfl, ⟨nd, rfl⟩⟩; refine ⟨_, rfl, ?_⟩) | ((with_reducible refine gate_callee (f := 53) rfl ?_); refine goesL_ (some 14) rfl rfl Tryd.func53 (by kernel_rfl) rfl #[.string t128, .string (⟨#[62]⟩ : ByteArray)] rfl (by (try simp only [List.map_toArray, List.map_cons, List.map_nil]); first | done | rfl | (simp only [List.length_drop, List.length_take]; rfl)) ?_; (with_reducible refine (strings_CutSuffix.calls t128 (⟨#[62]⟩ : ByteArray) t130 true _ A3.out).mono ?_); rintro e w' ⟨rfl, ⟨nd, rfl⟩⟩; refine ⟨_, rfl, ?_⟩) | (go_at_call 27; (with_reducible refine (addr_Path.calls t130 t132 _ A6.out).mono ?_); rintro e w9 ⟨rfl, hb⟩; have n0_ := Aside0.mk (below_step (by repeat (first | (with_reducible first | exact HB.out | apply below_alloc | apply pw_below_drewN | apply below_drew1) | exact HB.out)) hb); clear HB; have HB := n0_; clear n0_; (try clear hb); (try clear hb2); (try clear hk); (try clear hi)))
    go_ret2
    exact ⟨by first | rfl | (simp [errW_none, errW_some] <;> rfl) | (simp [*, errW_none, errW_some] <;> rfl), by repeat (first | (with_reducible first | exact HB.out | apply below_alloc | apply pw_below_drewN | apply below_drew1) | exact HB.out)⟩
  ·replace c5 := Bool.eq_false_iff.mpr c5
   subst c5
   have H1 : (some ((⟨#[]⟩ : ByteArray), 4)) = some (r1, r2) := by rw [if_neg (show ¬ (false = true) by decide)] at H; exact H
   clear H
   have H := H1
   clear H1
   simp only [Option.some.injEq, Prod.mk.injEq] at H
   obtain ⟨rfl, rfl⟩ := H
   go_enter Tryd.func41, Tryd.ntmps41
   go_wp2_with (first | ((with_reducible refine gate_callee (f := 43) rfl ?_); refine goesL_ (some 9) rfl rfl Tryd.func43 (by kernel_rfl) rfl #[.string a0, .string (⟨#[60]⟩ : ByteArray)] rfl (by (try simp only [List.map_toArray, List.map_cons, List.map_nil]); first | done | rfl | (simp only [List.length_drop, List.length_take]; rfl)) ?_; (with_reducible refine (strings_CutPrefix.calls a0 (⟨#[60]⟩ : ByteArray) t128 true _ A2.out).mono ?_); rintro e w' ⟨rfl, ⟨nd, rfl⟩⟩; refine ⟨_, rfl, ?_⟩) | ((with_reducible refine gate_callee (f := 53) rfl ?_); refine goesL_ (some 14) rfl rfl Tryd.func53 (by kernel_rfl) rfl #[.string t128, .string (⟨#[62]⟩ : ByteArray)] rfl (by (try simp only [List.map_toArray, List.map_cons, List.map_nil]); first | done | rfl | (simp only [List.length_drop, List.length_take]; rfl)) ?_; (with_reducible refine (strings_CutSuffix.calls t128 (⟨#[62]⟩ : ByteArray) t130 false _ A3.out).mono ?_); rintro e w' ⟨rfl, ⟨nd, rfl⟩⟩; refine ⟨_, rfl, ?_⟩))
   go_ret2
   exact ⟨by first | rfl | (simp [errW_none, errW_some] <;> rfl) | (simp [*, errW_none, errW_some] <;> rfl), by repeat (first | (with_reducible first | exact HB.out | apply below_alloc | apply pw_below_drewN | apply below_drew1) | exact HB.out)⟩
 ·replace c4 := Bool.eq_false_iff.mpr c4
  subst c4
  have H1 : (some ((⟨#[]⟩ : ByteArray), 4)) = some (r1, r2) := by rw [if_neg (show ¬ (false = true) by decide)] at H; exact H
  clear H
  have H := H1
  clear H1
  simp only [Option.some.injEq, Prod.mk.injEq] at H
  obtain ⟨rfl, rfl⟩ := H
  go_enter Tryd.func41, Tryd.ntmps41
  go_wp2_with (first | ((with_reducible refine gate_callee (f := 43) rfl ?_); refine goesL_ (some 9) rfl rfl Tryd.func43 (by kernel_rfl) rfl #[.string a0, .string (⟨#[60]⟩ : ByteArray)] rfl (by (try simp only [List.map_toArray, List.map_cons, List.map_nil]); first | done | rfl | (simp only [List.length_drop, List.length_take]; rfl)) ?_; (with_reducible refine (strings_CutPrefix.calls a0 (⟨#[60]⟩ : ByteArray) t128 false _ A2.out).mono ?_); rintro e w' ⟨rfl, ⟨nd, rfl⟩⟩; refine ⟨_, rfl, ?_⟩) | ((with_reducible refine gate_callee (f := 53) rfl ?_); refine goesL_ (some 14) rfl rfl Tryd.func53 (by kernel_rfl) rfl #[.string t128, .string (⟨#[62]⟩ : ByteArray)] rfl (by (try simp only [List.map_toArray, List.map_cons, List.map_nil]); first | done | rfl | (simp only [List.length_drop, List.length_take]; rfl)) ?_; (with_reducible refine (strings_CutSuffix.calls t128 (⟨#[62]⟩ : ByteArray) t130 t131 _ A3.out).mono ?_); rintro e w' ⟨rfl, ⟨nd, rfl⟩⟩; refine ⟨_, rfl, ?_⟩))
  go_ret2
  exact ⟨by first | rfl | (simp [errW_none, errW_some] <;> rfl) | (simp [*, errW_none, errW_some] <;> rfl), by repeat (first | (with_reducible first | exact HB.out | apply below_alloc | apply pw_below_drewN | apply below_drew1) | exact HB.out)⟩
end Go.Proofs.YtljkopbalejcgaaDoor.P
end
section
namespace Go.Proofs.YtljkopbalejcgaaDoor.P
open Go.RowKit Go.Proofs.YtljkopbalejcgaaDoorW.PrintWords Go.Proofs.YtljkopbalejcgaaDoorW.PrintLast Go.Proofs.YtljkopbalejcgaaDoorW.PrintMore
attribute [local go_sem] max2_int min2_int max_two min_two max_three min_three max_four min_four
set_option linter.unusedVariables false
set_option linter.unusedSimpArgs false
def cmd_path.l0 : Nat → ByteArray → Int → Int → Option (ByteArray × ByteArray × Bool)
 | 0, _, _, _ => none
 | k + 1, x0, x9, x10 => if x10 < x9 then (if 0 ≤ x10 then (if x10 < (x0.size : Int) then (if (bt x0 x10) = 62 then (if 0 ≤ (wrap64 (x10 + 1)) then (if (wrap64 (x10 + 1)) ≤ (x0.size : Int) then ((addr_Unpath.f (x0.extract 0 ((wrap64 (x10 + 1)) : Int).toNat)).bind fun bt133 => (if bt133.2 = 0 then (some (bt133.1, x0.extract ((wrap64 (x10 + 1)) : Int).toNat x0.size, true)) else (cmd_path.l0 k x0 x9 (wrap64 (x10 + 1))))) else (none)) else (none)) else (cmd_path.l0 k x0 x9 (wrap64 (x10 + 1)))) else (none)) else (none)) else (some ((⟨#[]⟩ : ByteArray), (⟨#[]⟩ : ByteArray), false))
def cmd_path.f (k : Nat) (a0 : ByteArray) : Option (ByteArray × ByteArray × Bool) := cmd_path.l0 k a0 (a0.size : Int) 0
theorem cmd_path.mono_l : ∀ k, (∀ y0 y1 y2, LeO (cmd_path.l0 k y0 y1 y2) (cmd_path.l0 (k + 1) y0 y1 y2))
 | 0 => fun _ _ _ r h => by simp [cmd_path.l0] at h
 | k + 1 => by
  have ih0 := cmd_path.mono_l k
  ·intro y0 y1 y2
   unfold cmd_path.l0
   repeat' first
   | (with_reducible exact ih0 _ _ _)
   | (with_reducible exact LeO.refl _)
   | (with_reducible exact LeO.none _)
   | (with_reducible refine LeO.ite ?_ ?_)
   | (with_reducible refine LeO.bind ?_ (fun _ => ?_))
   | exact ih0 _ _ _
   | exact LeO.none _
   | refine LeO.ite ?_ ?_
   | refine LeO.bind ?_ (fun _ => ?_)
theorem cmd_path.mono : ∀ a0 k, LeO (cmd_path.f k a0) (cmd_path.f (k + 1) a0) := by
 intro a0 k
 have ih0 := cmd_path.mono_l k
 unfold cmd_path.f
 repeat' first
   | (with_reducible exact ih0 _ _ _)
   | (with_reducible exact LeO.refl _)
   | (with_reducible exact LeO.none _)
   | (with_reducible refine LeO.ite ?_ ?_)
   | (with_reducible refine LeO.bind ?_ (fun _ => ?_))
   | exact ih0 _ _ _
   | exact LeO.none _
   | refine LeO.ite ?_ ?_
   | refine LeO.bind ?_ (fun _ => ?_)
set_option maxHeartbeats 8000000 in
set_option maxRecDepth 100000 in
theorem cmd_path.calls (k : Nat) (a0 : ByteArray) (r1 : ByteArray) (r2 : ByteArray) (r3 : Bool) (w : World) (h : cmd_path.f k a0 = some (r1, r2, r3)) :
  Calls Tryd.prog 30 #[.string a0] w fun e w' => e = .returned (.tuple #[.string r1, .string r2, .bool r3]) ∧ Below w.heap.size w w' := by
 have HB := Aside0.mk (Below.refl w.heap.size w)
 have H : (cmd_path.l0 k a0 (a0.size : Int) 0) = some (r1, r2, r3) := h
 clear h
 have H' := Aside0.mk H
 clear H
 go_enter Tryd.func30, Tryd.ntmps30
 go_wp2
 repeat (go_quiet (fail); try go_wp2)
 go_loopg [10] k (fun kq v10 w' => ∃ (x10_1 : Int), v10 = .int .i64 x10_1 ∧ Aside0 (cmd_path.l0 kq a0 (a0.size : Int) x10_1 = some (r1, r2, r3)) ∧ Aside0 (kq ≤ k) ∧ Aside0 (Below w.heap.size w w'))
 case atStart => exact ⟨(0), (by first | rfl | (simp; done) | (simp [*]; done)), H', ⟨Nat.le_refl _⟩, ⟨by repeat (first | (with_reducible first | exact HB.out | apply below_alloc | apply pw_below_drewN | apply below_drew1) | exact HB.out)⟩⟩
 case round =>
  clear H'
  obtain ⟨x10_1, rfl, HA, HK1, HB⟩ := hrel
  cases gk with
  | zero => exact absurd HA.out (by simp [cmd_path.l0])
  | succ k1 =>
   have H := HA.out
   clear HA
   simp only [cmd_path.l0] at H
   by_cases c2 : x10_1 < (a0.size : Int)
   ·rw [if_pos c2] at H
    have c2b0 : decide (x10_1 < (a0.size : Int)) = true := decide_eq_true c2
    clear c2
    by_cases c3 : 0 ≤ x10_1
    ·rw [if_pos c3] at H
     have c3b0 : decide (0 ≤ x10_1) = true := decide_eq_true c3
     clear c3
     by_cases c4 : x10_1 < (a0.size : Int)
     ·rw [if_pos c4] at H
      have c4b0 : decide (x10_1 < (a0.size : Int)) = true := decide_eq_true c4
      clear c4
      by_cases c6 : (bt a0 x10_1) = 62
      ·rw [if_pos c6] at H
       have c6b0 : ((bt a0 x10_1) == 62) = true := beq_iff_eq.mpr c6
       have c6b1 : ((bt a0 x10_1) != 62) = false := bne_eq_false_iff_eq.mpr c6
       clear c6
       obtain ⟨ji7, hji7⟩ : ∃ j_ : Int, (wrap64 (x10_1 + 1)) = j_ := ⟨_, rfl⟩
       replace H : (if 0 ≤ (ji7) then (if (ji7) ≤ (a0.size : Int) then ((addr_Unpath.f (a0.extract 0 ((ji7) : Int).toNat)).bind fun bt133 => (if bt133.2 = 0 then (some (bt133.1, a0.extract ((ji7) : Int).toNat a0.size, true)) else (cmd_path.l0 k1 a0 (a0.size : Int) ji7))) else (none)) else (none)) = some (r1, r2, r3) := by first | (rw [hji7] at H; exact H) | (simp only [hji7] at H ⊢; exact H)
       have hji7w : (IntKind.i64.wrap (x10_1 + 1)) = ji7 := (i64_w _).trans hji7
       by_cases c8 : 0 ≤ (ji7)
       ·rw [if_pos c8] at H
        have c8b0 := eq_true c8
        have c8b1 : decide (0 ≤ (ji7)) = true := decide_eq_true c8
        clear c8
        by_cases c9 : (ji7) ≤ (a0.size : Int)
        ·rw [if_pos c9] at H
         have c9b0 := eq_true c9
         have c9b1 : decide ((ji7) ≤ (a0.size : Int)) = true := decide_eq_true c9
         clear c9
         replace H := Option.bind_eq_some_iff.mp H
         obtain ⟨⟨t133, t134⟩, A100, H⟩ := H
         replace H : (if t134 = 0 then (some (t133, a0.extract ((ji7) : Int).toNat a0.size, true)) else (cmd_path.l0 k1 a0 (a0.size : Int) ji7)) = some (r1, r2, r3) := H
         have A10 := Aside0.mk A100
         clear A100
         by_cases c11 : t134 = 0
         ·rw [if_pos c11] at H
          have c11b0 : (t134 == 0) = true := beq_iff_eq.mpr c11
          have c11b1 : (t134 != 0) = false := bne_eq_false_iff_eq.mpr c11
          clear c11
          have c12b0 := eq_true (of_decide_eq_true (by first | (with_reducible assumption) | assumption) : 0 ≤ (ji7))
          have c13b0 := eq_true (of_decide_eq_true (by first | (with_reducible assumption) | assumption) : (ji7) ≤ (a0.size : Int))
          simp only [Option.some.injEq, Prod.mk.injEq] at H
          obtain ⟨rfl, rfl, rfl⟩ := H
          have p5 : 0 ≤ (x10_1 : Int) := of_decide_eq_true (by first | (with_reducible assumption) | assumption)
          have q5 : x10_1 < (a0.size : Int) := of_decide_eq_true (by first | (with_reducible assumption) | assumption)
          have hx5 := bt_at a0 x10_1
          replace p5 := eq_true p5
          replace q5 := eq_true q5
          go_wp2_with (first | (go_at_call 41; (with_reducible refine (addr_Unpath.calls (a0.extract 0 ((ji7) : Int).toNat) t133 t134 _ A10.out).mono ?_); rintro e w14 ⟨rfl, hb⟩; have n0_ := Aside0.mk (below_step (by repeat (first | (with_reducible first | exact HB.out | apply below_alloc | apply pw_below_drewN | apply below_drew1) | exact HB.out)) hb); clear HB; have HB := n0_; clear n0_; (try clear hb); (try clear hb2); (try clear hk); (try clear hi)))
          repeat (go_quiet (first | (go_at_call 41; (with_reducible refine (addr_Unpath.calls (a0.extract 0 ((ji7) : Int).toNat) t133 t134 _ A10.out).mono ?_); rintro e w14 ⟨rfl, hb⟩; have n0_ := Aside0.mk (below_step (by repeat (first | (with_reducible first | exact HB.out | apply below_alloc | apply pw_below_drewN | apply below_drew1) | exact HB.out)) hb); clear HB; have HB := n0_; clear n0_; (try clear hb); (try clear hb2); (try clear hk); (try clear hi))); try go_wp2_with (first | (go_at_call 41; (with_reducible refine (addr_Unpath.calls (a0.extract 0 ((ji7) : Int).toNat) t133 t134 _ A10.out).mono ?_); rintro e w14 ⟨rfl, hb⟩; have n0_ := Aside0.mk (below_step (by repeat (first | (with_reducible first | exact HB.out | apply below_alloc | apply pw_below_drewN | apply below_drew1) | exact HB.out)) hb); clear HB; have HB := n0_; clear n0_; (try clear hb); (try clear hb2); (try clear hk); (try clear hi))))
          go_ret3
          exact ⟨by first | rfl | (simp [errW_none, errW_some] <;> rfl) | (simp only [← hji7]; first | rfl | (simp [errW_none, errW_some] <;> rfl)) | (simp [*, errW_none, errW_some] <;> rfl), by repeat (first | (with_reducible first | exact HB.out | apply below_alloc | apply pw_below_drewN | apply below_drew1) | exact HB.out)⟩
         ·rw [if_neg c11] at H
          have c11b0 : (t134 == 0) = false := beq_eq_false_iff_ne.mpr c11
          have c11b1 : (t134 != 0) = true := bne_iff_ne.mpr c11
          have H' := Aside0.mk H
          clear H
          have p5 : 0 ≤ (x10_1 : Int) := of_decide_eq_true (by first | (with_reducible assumption) | assumption)
          have q5 : x10_1 < (a0.size : Int) := of_decide_eq_true (by first | (with_reducible assumption) | assumption)
          have hx5 := bt_at a0 x10_1
          replace p5 := eq_true p5
          replace q5 := eq_true q5
          go_wp2_with (first | (go_at_call 41; (with_reducible refine (addr_Unpath.calls (a0.extract 0 ((ji7) : Int).toNat) t133 t134 _ A10.out).mono ?_); rintro e w15 ⟨rfl, hb⟩; have n0_ := Aside0.mk (below_step (by repeat (first | (with_reducible first | exact HB.out | apply below_alloc | apply pw_below_drewN | apply below_drew1) | exact HB.out)) hb); clear HB; have HB := n0_; clear n0_; (try clear hb); (try clear hb2); (try clear hk); (try clear hi)))
          repeat (go_quiet (first | (go_at_call 41; (with_reducible refine (addr_Unpath.calls (a0.extract 0 ((ji7) : Int).toNat) t133 t134 _ A10.out).mono ?_); rintro e w15 ⟨rfl, hb⟩; have n0_ := Aside0.mk (below_step (by repeat (first | (with_reducible first | exact HB.out | apply below_alloc | apply pw_below_drewN | apply below_drew1) | exact HB.out)) hb); clear HB; have HB := n0_; clear n0_; (try clear hb); (try clear hb2); (try clear hk); (try clear hi))); try go_wp2_with (first | (go_at_call 41; (with_reducible refine (addr_Unpath.calls (a0.extract 0 ((ji7) : Int).toNat) t133 t134 _ A10.out).mono ?_); rintro e w15 ⟨rfl, hb⟩; have n0_ := Aside0.mk (below_step (by repeat (first | (with_reducible first | exact HB.out | apply below_alloc | apply pw_below_drewN | apply below_drew1) | exact HB.out)) hb); clear HB; have HB := n0_; clear n0_; (try clear hb); (try clear hb2); (try clear hk); (try clear hi))))
          go_roundg k1
          case measure => have := HK1.out; omega
          case rel => exact ⟨(ji7), (by first | rfl | (simp; done) | (simp only [← hji7] <;> (first | rfl | simp)) | (simp [*]; done)), H', ⟨by have := HK1.out; omega⟩, ⟨by repeat (first | (with_reducible first | exact HB.out | apply below_alloc | apply pw_below_drewN | apply below_drew1) | exact HB.out)⟩⟩
        ·rw [if_neg c9] at H
         exact absurd H (by simp)
       ·rw [if_neg c8] at H
        exact absurd H (by simp)
      ·rw [if_neg c6] at H
       have c6b0 : ((bt a0 x10_1) == 62) = false := beq_eq_false_iff_ne.mpr c6
       have c6b1 : ((bt a0 x10_1) != 62) = true := bne_iff_ne.mpr c6
       have H' := Aside0.mk H
       clear H
       have p5 : 0 ≤ (x10_1 : Int) := of_decide_eq_true (by first | (with_reducible assumption) | assumption)
       have q5 : x10_1 < (a0.size : Int) := of_decide_eq_true (by first | (with_reducible assumption) | assumption)
       have hx5 := bt_at a0 x10_1
       replace p5 := eq_true p5
       replace q5 := eq_true q5
       go_wp2
       repeat (go_quiet (fail); try go_wp2)
       go_roundg k1
       case measure => have := HK1.out; omega
       case rel => exact ⟨(wrap64 (x10_1 + 1)), (by first | rfl | (simp; done) | (simp [*]; done)), H', ⟨by have := HK1.out; omega⟩, ⟨by repeat (first | (with_reducible first | exact HB.out | apply below_alloc | apply pw_below_drewN | apply below_drew1) | exact HB.out)⟩⟩
     ·rw [if_neg c4] at H
      exact absurd H (by simp)
    ·rw [if_neg c3] at H
     exact absurd H (by simp)
   ·rw [if_neg c2] at H
    have c2b0 : decide (x10_1 < (a0.size : Int)) = false := decide_eq_false c2
    clear c2
    simp only [Option.some.injEq, Prod.mk.injEq] at H
    obtain ⟨rfl, rfl, rfl⟩ := H
    go_wp2
    repeat (go_quiet (fail); try go_wp2)
    go_ret3
    exact ⟨by first | rfl | (simp [errW_none, errW_some] <;> rfl) | (simp [*, errW_none, errW_some] <;> rfl), by repeat (first | (with_reducible first | exact HB.out | apply below_alloc | apply pw_below_drewN | apply below_drew1) | exact HB.out)⟩
end Go.Proofs.YtljkopbalejcgaaDoor.P
end
section
set_option linter.unusedVariables false
set_option linter.unusedSimpArgs false
namespace Go.Proofs.YtljkopbalejcgaaDoor.P
open Go Go.RowKit Go.Lib Go.Proofs.YtljkopbalejcgaaDoorW.PrintWords Go.Proofs.YtljkopbalejcgaaDoorW.PrintMore
theorem R_appendIn {α : Type} {F : Fence} {n : Nat} {P : Program} {ops : Array Oper} {rest : List Oper} {o : Oper} {a : Act} {Q : Exit → Act → World → Prop} (d : Kd α) {w0 W : World} (base : Nat) (hgd : o.guard = none) (s x : Operand) (t e : TypeId) (z : Value) (bytes : Nat)
  (ho : o.op = .call { callee := .builtin .append, args := #[s, x], argTypes := #[t, t] })
  (ht : P.underlying t = some (.slice e)) (hinfo : (P.info? e).map (fun i => (i.zero, i.size, i.bytes)) = some (some z, d.sz, bytes)) (hz : z.cells.size = d.sz) (hs0 : 0 < d.sz) (hb0 : 0 < bytes)
  (v : Value) (xs : List α) (p : α) (cs : List Value) (ok okp : Nat → Prop) (hs : a.eval s = v) (hx : a.eval x = .slice (some ⟨W.heap.size, 0, none⟩) 1 1) (hp : d.M W base okp p cs) (hokp : ∀ k, okp k → ok k ∧ some k ≠ v.ownBlock) (hfresh : ∀ k, W.heap.size ≤ k → ok k)
  (HO : d.R e W base ok v xs) (HB : Below base w0 W) (hbase : base ≤ W.heap.size) (hl : (xs.length + 1) * bytes ≤ 140737488355328)
  (h : ∀ v1 w1, d.R e w1 base ok v1 (xs ++ [p]) → Below base w0 w1 → W.grownBy w1 v.ownBlock → (v1.ownBlock = v.ownBlock ∨ ∃ b, v1.ownBlock = some b ∧ W.heap.size ≤ b) → wpListIn F n P ops Q rest (a.put o.dst v1) w1) :
  wpListIn F n P ops Q (o :: rest) a (W.alloc (.cells cs.toArray e)) := by
 obtain ⟨h0, inner, hown, hr⟩ := HO
 obtain ⟨i0, hi, hzz⟩ := Option.map_eq_some_iff.1 hinfo
 simp only [Prod.mk.injEq] at hzz
 obtain ⟨hz0, hz1, hz2⟩ := hzz
 have hys := d.K_len (d.K_of_M hp)
 have h1 := d.K_one (d.K_of_M hp)
 have hlen : xs.length + 1 ≤ 140737488355328 := Nat.le_trans (Nat.le_mul_of_pos_right _ hb0) hl
 refine wpListIn_plain hgd fun K hK' => ?_
 obtain ⟨v', w', hrun, r1, r2, r3, r4⟩ := run_append_own_at (P := P) (W.alloc (.cells cs.toArray e)) base t o.type e i0 z d.sz bytes ht hi hz0 hz1 hz2 hz hs0 v xs.length inner (hown.alloc _) ⟨W.heap.size, 0, none⟩ 1 1 cs (by rw [hys]; simp)
  (by simpa using World.news_of_block (cs := cs.toArray) (t := e) (fr := (0, 0)) (heap_alloc_new W (.cells cs.toArray e))) h1 (by simp only [maxLen]; omega) hl (by simp; omega)
 have hg : W.grownBy w' v.ownBlock := World.grownBy.trans (World.grownBy_alloc W _ _) r2
 have hat : v'.ownBlock = v.ownBlock ∨ ∃ b, v'.ownBlock = some b ∧ W.heap.size ≤ b := by
  rcases r4 with r4 | r4
  ·exact .inl r4
  ·exact .inr ⟨_, r4, by simp⟩
 unfold Oper.wpIn
 refine ⟨?_, ?_⟩
 ·simp [Oper.about, ho, resolve, Target.leads, Sem.run_pure]
 ·rw [Oper.semAt_plain F _ _ (by rw [ho]; intro c hc'; cases hc')]
  simp [execOp, ho, resolve, invoke, builtin, hs, hx, hrun, Result.andThen]
  exact hK' _ _ (h v' w' (Kd.R_appended h0 hr hp hokp hfresh r1 hg hat) ((HB.alloc hbase _).grown r2 (by simp; omega) (own_base hown)) hg hat)
theorem R_grown {α : Type} {d : Kd α} {e base : Nat} {ok : Nat → Prop} {W W' : World} {v : Value} {xs : List α} {row : Option Nat} (hE : d.E = []) (h : d.R e W base ok v xs) (hg : W.grownBy W' row)
  (hr : ∀ r, row = some r → (¬ ok r) ∨ (∃ o : Obj, W.heap[r]? = some o ∧ o.isCells = false)) : d.R e W' base ok v xs := by
 cases row with
 | none => exact Kd.R_step h (fun k _ hk => hg.block k hk (by simp))
 | some r =>
  rcases hr r rfl with hr | ⟨o, ho, hc⟩
  ·exact Kd.R_step h (fun k hok hk => hg.block k hk (fun e => by cases e; exact hr hok))
  ·have hne : some r ≠ v.ownBlock := by
    obtain ⟨inner, hown⟩ := Kd.R_own h
    intro e'
    rcases hown.2 with ⟨hv, _⟩ | ⟨g', cap, cur, hv, _, hh, _⟩
    ·rw [hv] at e'; simp [Value.ownBlock] at e'
    ·rw [hv] at e'
     have : r = g' := by simpa [Value.ownBlock] using e'
     subst this
     rw [ho] at hh; cases hh; simp [Obj.isCells] at hc
   exact Kd.R_mono (Kd.R_step (Kd.R_far1 h hE hne) (fun k hok hk => hg.block k hk (fun e => by cases e; exact hok.2 rfl))) (fun _ hk => hk.1)
end Go.Proofs.YtljkopbalejcgaaDoor.P
end
section
set_option linter.unusedVariables false
set_option linter.unusedSimpArgs false
namespace Go.Proofs.YtljkopbalejcgaaDoor.P
open Go Go.RowKit
theorem grown_of_below' {w w' : World} (h : Below w.heap.size w w') : w.grownBy w' none := ⟨h.os, h.tape, h.output, h.size, fun k hk _ => h.block k hk⟩
theorem wpIn_rangeB2 {α : Type} {P : Program} {g : Operand} {ps : Array Tmp} {assign body : Code} {Q : Exit → Act → World → Prop} {a : Act} {w : World}
  {gf : Nat} {lb : Array Value} (hg : a.eval g = .func (.func gf) #[] lb) (eg : ∀ args w, (callFunc gf args).run P w = .ok (.enter gf args) w)
  {encs : α → Array Value} {xs : List α} {B : Nat} {Pre : World → Prop} (hseq : IterB P gf lb encs xs B Pre) (hB : B < w.heap.size)
  (hPre : ∀ W, Below w.heap.size w W → Pre W) (hps : ∀ x, (encs x).size = ps.size)
  (I : Nat → World → Prop) (Ix : Code → Nat → World → Prop) (hI : OwnB w.heap.size B I) (hIx : ∀ c, OwnB w.heap.size B (Ix c)) (h0 : I 0 w) (G : α → Act → World → Prop) (hG : ∀ x a', OwnB w.heap.size B (fun (_ : Unit) W => G x a' W))
  (hassign : ∀ (l : Nat) (x : α) (W : World) (K : Act → World → Prop), w.heap.size ≤ W.heap.size → (∀ a' W', Below W.heap.size W W' → G x a' W' → K a' W') →
   assign.wpIn (Fence.wide.inRound l) 0 P (Exit.then K (fun _ _ _ => False)) { tmps := (ps.zip (encs x)).foldl (fun t (p, v) => t.setIfInBounds p v) a.tmps, defers := [] } W)
  (hbody : ∀ (l i : Nat) (hi : i < xs.length) (a' : Act) (W : World), w.heap.size ≤ W.heap.size → I i W → G xs[i] a' W → body.wpIn (Fence.wide.inRound l) 0 P (postB w.heap.size B I Ix (i + 1) W) a' W)
  (hdone : ∀ (D : Nat) (W : World), w.heap.size ≤ D → I xs.length W → W.heap[D]? = some (.deferred (some [])) → Q .normal { a with defers := { target := .collected D, args := #[] } :: a.defers } W)
  (hstop : ∀ (D : Nat) (c : Code) (i : Nat) (W : World), w.heap.size ≤ D → i ≤ xs.length → Ix c i W → W.heap[D]? = some (.deferred (some [])) → c.wpIn Fence.wide 0 P Q { a with defers := { target := .collected D, args := #[] } :: a.defers } W) :
  (Code.rangeFunc g ps assign body).wpIn Fence.wide 0 P Q a w := by
 refine wpIn_rangeFunc ?_
 intro fn hfn
 rw [Fence.wide_round]
 obtain ⟨rec, hrec⟩ : ∃ rec : LoopState → Option Code → Loop, rec = fun st pe => { state := st, pending := pe, fn, tmps := a.tmps, params := ps, assign, body, defers := w.heap.size } := ⟨_, rfl⟩
 obtain ⟨W1, hW1⟩ : ∃ W1, (w.alloc (.deferred (some []))).alloc (.loop (rec .ready none)) = W1 := ⟨_, rfl⟩
 have hsz1 : W1.heap.size = w.heap.size + 2 := by rw [← hW1]; simp
 have hL1 : W1.heap[w.heap.size + 1]? = some (.loop (rec .ready none)) := by
  rw [← hW1]; have := World.alloc_heap_new (w.alloc (.deferred (some []))) (.loop (rec .ready none)); rwa [World.size_alloc] at this
 have hK1 : W1.heap[w.heap.size]? = some (.deferred (some [])) := by
  rw [← hW1]; exact (Below.heap_alloc _ _ _ (by simp)).trans (World.alloc_heap_new w _)
 have hI1 : I 0 W1 := by rw [← hW1]; exact hI.alloc _ (hI.alloc _ h0)
 have hb1 : Below w.heap.size w W1 := by
  rw [← hW1]; exact ((Below.refl _ w).alloc (Nat.le_refl _) _).alloc (by simp) _
 have hne : ∀ {A A' : World} {k : Nat} {o : Obj}, A.grownBy A' (some B) → w.heap.size ≤ k → A.heap[k]? = some o → A'.heap[k]? = some o := fun hg' hk ho =>
  (hg'.block _ (Array.getElem?_eq_some_iff.1 ho).1 (fun e => by cases e; omega)).trans ho
 refine ⟨w.heap.size + 1, [{ target := .collected w.heap.size, args := #[] }], W1, { target := .fn (.func gf) lb, args := #[.func (.yield (w.heap.size + 1)) #[] #[]] }, W1, gf,
  #[.func (.yield (w.heap.size + 1)) #[] #[]] ++ lb, W1, ?_, ?_, fun _ _ => trivial, ?_, fun h => absurd h (by simp [Fence.wide]), ?_⟩
 ·rw [← hW1, hrec]; exact run_enterLoop_outer _ _ _ _ _
 ·simp only [resolve, hg]
  simp [go_sem]
 ·simp [invoke, go_sem, eg]
 ·refine (hseq (w.heap.size + 1)
   (fun i W => I i W ∧ w.heap.size + 2 ≤ W.heap.size ∧ W.heap[w.heap.size + 1]? = some (.loop (rec .ready none)) ∧ W.heap[w.heap.size]? = some (.deferred (some [])))
   (fun i W => ∃ c, Ix c i W ∧ W.heap[w.heap.size + 1]? = some (.loop (rec .done (some c))) ∧ W.heap[w.heap.size]? = some (.deferred (some [])))
   W1 (hPre W1 hb1)
   (fun i A A' hs hg' => ⟨hI i A A' (some B) hs.1 hg' (fun r e => by cases e; exact .inl rfl), Nat.le_trans hs.2.1 hg'.size, hne hg' (by omega) hs.2.2.1, hne hg' (Nat.le_refl _) hs.2.2.2⟩)
   (fun i A A' hs hg' => by
    obtain ⟨c, hc, hl, hk⟩ := hs
    exact ⟨c, hIx c i A A' (some B) hc hg' (fun r e => by cases e; exact .inl rfl), hne hg' (by omega) hl, hne hg' (Nat.le_refl _) hk⟩)
   ?_ ⟨hI1, by omega, hL1, hK1⟩).mono ?_
  ·rintro i hi W ⟨hin, hsz, hl, hk⟩
   have hlt : w.heap.size + 1 < W.heap.size := (Array.getElem?_eq_some_iff.1 hl).1
   have hy := run_yield (P := P) (args := encs xs[i]) hl (by rw [hrec]; exact hps xs[i])
   rw [hrec] at hy
   refine ⟨fn, _, assign, body, hy, roundIn_of_wpIn hfn (hassign _ xs[i] W _ (by omega) (fun a' W' hbW hgW => ⟨_, run_beginRound (show W'.heap[w.heap.size + 1]? = some (.loop (rec .ready none)) from (hbW.block _ hlt).trans hl) (by rw [hrec]), ?_⟩))⟩
   have hl' : W'.heap[w.heap.size + 1]? = some (.loop (rec .ready none)) := (hbW.block _ hlt).trans hl
   have hlt' : w.heap.size + 1 < W'.heap.size := (Array.getElem?_eq_some_iff.1 hl').1
   have hin' : I i W' := hI _ _ _ none hin (grown_of_below' hbW) (fun r e => by cases e)
   have hl2 : (W'.putObj (w.heap.size + 1) (.loop { rec .ready none with state := .busy })).heap[w.heap.size + 1]? = some (.loop { rec .ready none with state := .busy }) := World.putObj_heap_same hlt'
   have hk2 : (W'.putObj (w.heap.size + 1) (.loop { rec .ready none with state := .busy })).heap[w.heap.size]? = some (.deferred (some [])) := (World.putObj_heap_other (by omega)).trans ((hbW.block _ (by omega)).trans hk)
   have hB2 : (W'.putObj (w.heap.size + 1) (.loop { rec .ready none with state := .busy })).heap[B]? = W.heap[B]? := (World.putObj_heap_other (by omega)).trans (hbW.block _ (by omega))
   refine wpIn_mono (hbody _ i hi a' _ (by simp; omega) (hI.putObj _ hin' (by omega) hl' rfl) ((hG xs[i] a').putObj (s := ()) _ hgW (by omega) hl' rfl)) ?_
   have fin : ∀ (jump : Option Code) (W3 : World), KeepsFrom w.heap.size (W'.putObj (w.heap.size + 1) (.loop { rec .ready none with state := .busy })) W3 →
     (Instr.endRound (w.heap.size + 1) jump).run P W3 = .ok (.bool jump.isNone) (W3.putObj (w.heap.size + 1) (.loop (rec (if jump.isNone then .ready else .done) jump))) ∧
     W3.heap[w.heap.size + 1]? = some (.loop { rec .ready none with state := .busy }) ∧
     (W3.putObj (w.heap.size + 1) (.loop (rec (if jump.isNone then .ready else .done) jump))).heap[w.heap.size + 1]? = some (.loop (rec (if jump.isNone then .ready else .done) jump)) ∧
     (W3.putObj (w.heap.size + 1) (.loop (rec (if jump.isNone then .ready else .done) jump))).heap[w.heap.size]? = some (.deferred (some [])) := fun jump W3 hk3 => by
    have hl3 := hk3.same _ _ (by omega) hl2 rfl
    have := run_endRound (P := P) jump hl3
    rw [hrec] at this ⊢
    exact ⟨this, by rw [hrec] at hl3; exact hl3, World.putObj_heap_same (Array.getElem?_eq_some_iff.1 hl3).1, (World.putObj_heap_other (by omega)).trans (hk3.same _ _ (Nat.le_refl _) hk2 rfl)⟩
   rintro e a3 W3 hp
   cases e with
   | normal =>
    obtain ⟨hk3, hb3, hi3⟩ := hp
    obtain ⟨hr, hl3, hl4, hk4⟩ := fin none W3 hk3
    have hs3 : W.heap.size ≤ W3.heap.size := by have := hk3.size; have h2 := hbW.size; simp at this; omega
    exact ⟨_, _, hr, .inl ⟨rfl, ⟨hI.putObj _ hi3 (by omega) hl3 rfl, by simp; omega, hl4, hk4⟩, by simpa using hs3, (World.putObj_heap_other (by omega)).trans (hb3.trans hB2)⟩⟩
   | ret =>
    obtain ⟨hk3, hi3⟩ := hp
    obtain ⟨hr, hl3, hl4, hk4⟩ := fin (some .ret) W3 hk3
    exact ⟨_, _, hr, .inr ⟨rfl, .ret, (hIx _).putObj _ hi3 (by omega) hl3 rfl, hl4, hk4⟩⟩
   | exit id =>
    obtain ⟨hk3, hi3⟩ := hp
    obtain ⟨hr, hl3, hl4, hk4⟩ := fin (some (.exit id)) W3 hk3
    exact ⟨_, _, hr, .inr ⟨rfl, .exit id, (hIx _).putObj _ hi3 (by omega) hl3 rfl, hl4, hk4⟩⟩
   | goto t =>
    obtain ⟨hk3, hi3⟩ := hp
    obtain ⟨hr, hl3, hl4, hk4⟩ := fin (some (.goto t)) W3 hk3
    exact ⟨_, _, hr, .inr ⟨rfl, .goto t, (hIx _).putObj _ hi3 (by omega) hl3 rfl, hl4, hk4⟩⟩
   | panic ch => exact hp.elim
   | outgrown => exact hp.elim
  ·rintro e W2 ⟨⟨v, rfl⟩, (⟨hi, _, hl, hk⟩ | ⟨i, hle, c, hi, hl, hk⟩)⟩
   ·exact ⟨none, _, by have := run_endLoop (P := P) hl (by rw [hrec]; simp); rw [hrec] at this; exact this, hdone _ _ (Nat.le_refl _) (hI.putObj _ hi (by omega) hl rfl) ((World.putObj_heap_other (by omega)).trans hk)⟩
   ·exact ⟨some c, _, by have := run_endLoop (P := P) hl (by rw [hrec]; simp); rw [hrec] at this; exact this, hstop _ c i _ (Nat.le_refl _) hle ((hIx c).putObj _ hi (by omega) hl rfl) ((World.putObj_heap_other (by omega)).trans hk)⟩
end Go.Proofs.YtljkopbalejcgaaDoor.P
end
section
namespace Go.Proofs.YtljkopbalejcgaaDoor.P
open Go.RowKit Go.Proofs.YtljkopbalejcgaaDoorW.PrintWords Go.Proofs.YtljkopbalejcgaaDoorW.PrintLast Go.Proofs.YtljkopbalejcgaaDoorW.PrintMore
attribute [local go_sem] max2_int min2_int max_two min_two max_three min_three max_four min_four
set_option linter.unusedVariables false
set_option linter.unusedSimpArgs false
open Go Go.Lib
def toldF : Nat → List UInt8 → List ((List UInt8 × List UInt8) × List UInt8)
 | 0, _ => []
 | k + 1, s => if s = [] then [] else
  if (!Lib.hasPrefix s [32] || !paramOk ((Lib.cut (Lib.cut (Lib.trimPrefix s [32]) [32]).1 [61]).1.map upper) (Lib.cut (Lib.cut (Lib.trimPrefix s [32]) [32]).1 [61]).2.1 || ((Lib.cut (Lib.cut (Lib.trimPrefix s [32]) [32]).1 [61]).2.2 && (Lib.cut (Lib.cut (Lib.trimPrefix s [32]) [32]).1 [61]).2.1.isEmpty)) = true then []
  else (((Lib.cut (Lib.cut (Lib.trimPrefix s [32]) [32]).1 [61]).1.map upper, (Lib.cut (Lib.cut (Lib.trimPrefix s [32]) [32]).1 [61]).2.1), (Lib.cut (Lib.trimPrefix s [32]) [32]).2.1) ::
   toldF k (if (Lib.cut (Lib.trimPrefix s [32]) [32]).2.2 = true then 32 :: (Lib.cut (Lib.trimPrefix s [32]) [32]).2.1 else (Lib.cut (Lib.trimPrefix s [32]) [32]).2.1)
theorem toldF_succ (k : Nat) (s : List UInt8) (h : s ≠ []) : toldF (k + 1) s =
  if (!Lib.hasPrefix s [32] || !paramOk ((Lib.cut (Lib.cut (Lib.trimPrefix s [32]) [32]).1 [61]).1.map upper) (Lib.cut (Lib.cut (Lib.trimPrefix s [32]) [32]).1 [61]).2.1 || ((Lib.cut (Lib.cut (Lib.trimPrefix s [32]) [32]).1 [61]).2.2 && (Lib.cut (Lib.cut (Lib.trimPrefix s [32]) [32]).1 [61]).2.1.isEmpty)) = true then []
  else (((Lib.cut (Lib.cut (Lib.trimPrefix s [32]) [32]).1 [61]).1.map upper, (Lib.cut (Lib.cut (Lib.trimPrefix s [32]) [32]).1 [61]).2.1), (Lib.cut (Lib.trimPrefix s [32]) [32]).2.1) ::
   toldF k (if (Lib.cut (Lib.trimPrefix s [32]) [32]).2.2 = true then 32 :: (Lib.cut (Lib.trimPrefix s [32]) [32]).2.1 else (Lib.cut (Lib.trimPrefix s [32]) [32]).2.1) := by rw [toldF, if_neg h]
theorem grown_of_below {w w' : World} (h : Below w.heap.size w w') (row : Option Nat) : w.grownBy w' row := ⟨h.os, h.tape, h.output, h.size, fun k hk _ => h.block k hk⟩
theorem cut_len1 (l : List UInt8) (c : UInt8) : (Lib.cut l [c]).1.length ≤ l.length := by
 unfold Lib.cut
 split
 ·simp only [List.length_take]; omega
 ·simp
theorem trim_len (l p : List UInt8) : (Lib.trimPrefix l p).length ≤ l.length := by
 unfold Lib.trimPrefix; split
 ·rw [List.length_drop]; omega
 ·exact Nat.le_refl _
theorem trim_lt (l : List UInt8) (h : Lib.hasPrefix l [32] = true) : (Lib.trimPrefix l [32]).length < l.length := by
 cases l with
 | nil => simp [Lib.hasPrefix, List.isPrefixOf] at h
 | cons c r =>
  unfold Lib.trimPrefix; rw [h]
  simp
def encT (x : (List UInt8 × List UInt8) × List UInt8) : Array Value := #[.agg #[.string ⟨x.1.1.toArray⟩, .string ⟨x.1.2.toArray⟩], .string ⟨x.2.toArray⟩]
section
attribute [local go_sem] Oper.semAt_some wide_fn wide_depth
set_option maxHeartbeats 1000000 in
set_option maxRecDepth 100000 in
theorem told_iter (B : Nat) (s : ByteArray) (hs : s.size ≤ 140737488351232) :
  IterB Tryd.prog 42 #[.pointer (some ⟨B, 0, none⟩)] encT (toldF s.size s.data.toList) B (fun W => Boxed W B 9 (.string s)) := by
 intro l J Jx W hW hJ hJx hY h0
 refine callsIn_of_wp Tryd.func42 rfl trivial ?_ rfl
 simp only [Tryd.ntmps42, List.size_toArray, List.length_cons, List.length_nil, Nat.reduceAdd, Nat.reduceSub, Array.replicate_succ, Array.replicate_zero, List.push_toArray, List.append_toArray, List.nil_append, List.cons_append]
 gi_wp2
 gi_loopw [] (fun wr => ∃ (i f : Nat) (r : ByteArray), i ≤ (toldF s.size s.data.toList).length ∧ (toldF s.size s.data.toList).drop i = toldF f r.data.toList ∧ r.size ≤ f ∧ r.size ≤ s.size ∧ Boxed wr B 9 (.string r) ∧ J i wr)
  (fun wr => strLen wr B)
 case atStart => exact ⟨0, s.size, s, Nat.zero_le _, rfl, Nat.le_refl _, Nat.le_refl _, hW, h0⟩
 case round =>
  obtain ⟨i, f, r, hi, hd, hf, hr, hbx, hj⟩ := hrel
  have hc := hbx.cell
  have hfz := hbx.frozen
  generalize hxs : toldF s.size s.data.toList = xs at hd hi hY
  by_cases hr0 : r.data.toList = []
  ·have hre : r.toList.isEmpty = true := by rw [Lib.toList_data, hr0]; rfl
   have hil : i = xs.length := by
    have h1 : xs.drop i = [] := by rw [hd, hr0]; cases f <;> simp [toldF]
    have := List.drop_eq_nil_iff.1 h1
    omega
   have HJ := Aside0.mk (hil ▸ hj)
   have HXS := Aside0.mk hxs
   clear hil hj hd hxs hi
   gi_wp2
   refine bodyPost_end (results_none rfl _ _ _) rfl ?_
   exact ⟨⟨_, rfl⟩, .inl (by rw [HXS.out]; exact HJ.out)⟩
  ·have hre : r.toList.isEmpty = false := by rw [Lib.toList_data]; cases h : r.data.toList with
    | nil => exact absurd h hr0
    | cons _ _ => rfl
   have hrz : 0 < r.size := by
    rw [← len_eq]; exact List.length_pos_iff.2 hr0
   obtain ⟨f', rfl⟩ : ∃ f', f = f' + 1 := ⟨f - 1, by omega⟩
   have hT := toldF_succ f' r.data.toList hr0
   have h1 : ∀ W, Calls Tryd.prog 43 #[.string r, .string ⟨#[32]⟩] W fun e w' => e = .returned (.tuple #[.string ⟨(Lib.trimPrefix r.data.toList [32]).toArray⟩, .bool (Lib.hasPrefix r.data.toList [32])]) ∧ w' = W := fun W => Tryd.strings_CutPrefix r ⟨#[32]⟩ W
   have hl0 : (Lib.trimPrefix r.data.toList [32]).length ≤ r.size := by have := trim_len r.data.toList [32]; rw [len_eq] at this; exact this
   have hl1 : Lib.hasPrefix r.data.toList [32] = true → (Lib.trimPrefix r.data.toList [32]).length < r.size := fun h => by have := trim_lt r.data.toList h; rw [len_eq] at this; exact this
   generalize Lib.trimPrefix r.data.toList [32] = inn at h1 hl0 hl1 hT
   generalize Lib.hasPrefix r.data.toList [32] = is at h1 hl1 hT
   have h2 : ∀ W, Calls Tryd.prog 44 #[.string ⟨inn.toArray⟩, .string ⟨#[32]⟩] W fun e w' => e = .returned (.tuple #[.string ⟨(Lib.cut inn [32]).1.toArray⟩, .string ⟨(Lib.cut inn [32]).2.1.toArray⟩, .bool (Lib.cut inn [32]).2.2]) ∧ ∃ n, w' = W.drewN n := fun W => cut1 ⟨inn.toArray⟩ 32 W (by show inn.toArray.size ≤ _; rw [List.size_toArray]; omega)
   have hl2 := cut_len1 inn 32
   have hl3 := cut_lt inn 32
   generalize Lib.cut inn [32] = c1 at h2 hl2 hl3 hT
   obtain ⟨wd, rest, more⟩ := c1
   simp only at h2 hl2 hl3 hT
   have h3 : ∀ W, Calls Tryd.prog 44 #[.string ⟨wd.toArray⟩, .string ⟨#[61]⟩] W fun e w' => e = .returned (.tuple #[.string ⟨(Lib.cut wd [61]).1.toArray⟩, .string ⟨(Lib.cut wd [61]).2.1.toArray⟩, .bool (Lib.cut wd [61]).2.2]) ∧ ∃ n, w' = W.drewN n := fun W => cut1 ⟨wd.toArray⟩ 61 W (by show wd.toArray.size ≤ _; rw [List.size_toArray]; omega)
   have hl4 := cut_len1 wd 61
   have hl5 := (cut_lt wd 61).1
   generalize Lib.cut wd [61] = c2 at h3 hl4 hl5 hT
   obtain ⟨n, v, has⟩ := c2
   simp only at h3 hl4 hl5 hT
   have h4 : ∀ W, Calls Tryd.prog 29 #[.string ⟨n.toArray⟩] W fun e w' => e = .returned (.string ⟨(n.map upper).toArray⟩) ∧ Below W.heap.size W w' := fun W => great_any ⟨n.toArray⟩ W (by show n.toArray.size ≤ _; rw [List.size_toArray]; omega)
   have hl6 : (n.map upper).length ≤ r.size := by rw [List.length_map]; omega
   generalize n.map upper = gn at h4 hl6 hT
   have h5 : ∀ W, Calls Tryd.prog 45 #[.agg #[.string ⟨gn.toArray⟩, .string ⟨v.toArray⟩]] W fun e w' => e = .returned (.bool (paramOk gn v)) ∧ Below W.heap.size W w' := fun W => cmd_param.calls _ _ _ W (by unfold cmd_param.f; rw [if_pos ⟨by show gn.toArray.size ≤ _; rw [List.size_toArray]; omega, by show v.toArray.size ≤ _; rw [List.size_toArray]; omega⟩])
   generalize paramOk gn v = pk at h5 hT
   have hvz : (⟨v.toArray⟩ : ByteArray).toList.isEmpty = v.isEmpty := by rw [Lib.toList_data]
   generalize hve : v.isEmpty = ve at hvz hT
   clear hl4 hl5
   have HD := Aside0.mk (hd.trans hT)
   have HXS := Aside0.mk hxs
   clear hd hT hxs hr0
   cases hbad : (!is || !pk || (has && ve)) with
   | true =>
    have hil : i = xs.length := by
     have h1 : xs.drop i = [] := by rw [HD.out, if_pos hbad]
     have := List.drop_eq_nil_iff.1 h1
     omega
    have HJ := Aside0.mk (hil ▸ hj)
    clear hil hj hi HD hl0 hl1 hl2 hl3 hl6 hY
    have hcs : is = false ∨ (is = true ∧ pk = false) ∨ (is = true ∧ pk = true ∧ has = true ∧ ve = true) := by
     cases is <;> cases pk <;> cases has <;> cases ve <;> simp_all
    clear hbad
    rcases hcs with rfl | ⟨rfl, rfl⟩ | ⟨rfl, rfl, rfl, rfl⟩
    ·gi_wp2_with (first | (gi_at_call 43; refine (CallsIn.mono (callsIn_wide.2 (h1 _)) ?_); rintro e w' ⟨rfl, hw⟩; obtain rfl := hw.symm; clear hw) | (gi_at_call 44; first | (refine (CallsIn.mono (callsIn_wide.2 (h2 _)) ?_); rintro e w' ⟨rfl, nd, rfl⟩; clear h2) | (refine (CallsIn.mono (callsIn_wide.2 (h3 _)) ?_); rintro e w' ⟨rfl, nd3, rfl⟩; clear h3)) | (gi_at_call 29; refine (CallsIn.mono (callsIn_wide.2 (h4 _)) ?_); rintro e w4 ⟨rfl, hb4⟩; have HB4 : Aside0 (Below wr.heap.size wr w4) := ⟨below_step (pw_below_drewN (Below.refl _ _) (nd + nd3)) hb4⟩; clear hb4 h4) | (gi_at_call 45; refine (CallsIn.mono (callsIn_wide.2 (h5 _)) ?_); rintro e w5 ⟨rfl, hb5⟩; have hk5 := blk_below (heap_alloc_new w4 (.cells #[.string ⟨gn.toArray⟩, .string ⟨v.toArray⟩] 49)) hb5; have hp0 : w5.cell? ⟨w4.heap.size, 0, none⟩ = some (.string ⟨gn.toArray⟩) := blk_cell hk5 0; have hp1 : w5.cell? ⟨w4.heap.size, 1, none⟩ = some (.string ⟨v.toArray⟩) := blk_cell hk5 1; have HB5 : Aside0 (Below wr.heap.size wr w5) := ⟨below_step (below_alloc HB4.out _) hb5⟩; clear hb5 h5 hk5))
     refine bodyPost_ret (results_none rfl _ _ _) rfl ?_
     exact ⟨⟨_, rfl⟩, .inl (by rw [HXS.out]; exact hJ _ _ _ HJ.out (grown_of_below (by first | exact HB5.out | exact below_alloc HB4.out _) _))⟩
    ·gi_wp2_with (first | (gi_at_call 43; refine (CallsIn.mono (callsIn_wide.2 (h1 _)) ?_); rintro e w' ⟨rfl, hw⟩; obtain rfl := hw.symm; clear hw) | (gi_at_call 44; first | (refine (CallsIn.mono (callsIn_wide.2 (h2 _)) ?_); rintro e w' ⟨rfl, nd, rfl⟩; clear h2) | (refine (CallsIn.mono (callsIn_wide.2 (h3 _)) ?_); rintro e w' ⟨rfl, nd3, rfl⟩; clear h3)) | (gi_at_call 29; refine (CallsIn.mono (callsIn_wide.2 (h4 _)) ?_); rintro e w4 ⟨rfl, hb4⟩; have HB4 : Aside0 (Below wr.heap.size wr w4) := ⟨below_step (pw_below_drewN (Below.refl _ _) (nd + nd3)) hb4⟩; clear hb4 h4) | (gi_at_call 45; refine (CallsIn.mono (callsIn_wide.2 (h5 _)) ?_); rintro e w5 ⟨rfl, hb5⟩; have hk5 := blk_below (heap_alloc_new w4 (.cells #[.string ⟨gn.toArray⟩, .string ⟨v.toArray⟩] 49)) hb5; have hp0 : w5.cell? ⟨w4.heap.size, 0, none⟩ = some (.string ⟨gn.toArray⟩) := blk_cell hk5 0; have hp1 : w5.cell? ⟨w4.heap.size, 1, none⟩ = some (.string ⟨v.toArray⟩) := blk_cell hk5 1; have HB5 : Aside0 (Below wr.heap.size wr w5) := ⟨below_step (below_alloc HB4.out _) hb5⟩; clear hb5 h5 hk5))
     refine bodyPost_ret (results_none rfl _ _ _) rfl ?_
     exact ⟨⟨_, rfl⟩, .inl (by rw [HXS.out]; exact hJ _ _ _ HJ.out (grown_of_below (by first | exact HB5.out | exact below_alloc HB4.out _) _))⟩
    ·gi_wp2_with (first | (gi_at_call 43; refine (CallsIn.mono (callsIn_wide.2 (h1 _)) ?_); rintro e w' ⟨rfl, hw⟩; obtain rfl := hw.symm; clear hw) | (gi_at_call 44; first | (refine (CallsIn.mono (callsIn_wide.2 (h2 _)) ?_); rintro e w' ⟨rfl, nd, rfl⟩; clear h2) | (refine (CallsIn.mono (callsIn_wide.2 (h3 _)) ?_); rintro e w' ⟨rfl, nd3, rfl⟩; clear h3)) | (gi_at_call 29; refine (CallsIn.mono (callsIn_wide.2 (h4 _)) ?_); rintro e w4 ⟨rfl, hb4⟩; have HB4 : Aside0 (Below wr.heap.size wr w4) := ⟨below_step (pw_below_drewN (Below.refl _ _) (nd + nd3)) hb4⟩; clear hb4 h4) | (gi_at_call 45; refine (CallsIn.mono (callsIn_wide.2 (h5 _)) ?_); rintro e w5 ⟨rfl, hb5⟩; have hk5 := blk_below (heap_alloc_new w4 (.cells #[.string ⟨gn.toArray⟩, .string ⟨v.toArray⟩] 49)) hb5; have hp0 : w5.cell? ⟨w4.heap.size, 0, none⟩ = some (.string ⟨gn.toArray⟩) := blk_cell hk5 0; have hp1 : w5.cell? ⟨w4.heap.size, 1, none⟩ = some (.string ⟨v.toArray⟩) := blk_cell hk5 1; have HB5 : Aside0 (Below wr.heap.size wr w5) := ⟨below_step (below_alloc HB4.out _) hb5⟩; clear hb5 h5 hk5))
     refine bodyPost_ret (results_none rfl _ _ _) rfl ?_
     exact ⟨⟨_, rfl⟩, .inl (by rw [HXS.out]; exact hJ _ _ _ HJ.out (grown_of_below (by first | exact HB5.out | exact below_alloc HB4.out _) _))⟩
   | false =>
    have hcs : is = true ∧ pk = true ∧ (has && ve) = false := by
     cases is <;> cases pk <;> simp_all
    obtain ⟨rfl, rfl, hhv⟩ := hcs
    have hD := HD.out
    rw [hbad] at hD
    simp only [Bool.false_eq_true, if_false] at hD
    clear hbad HD
    have hil : i < xs.length := by
     have h1 := congrArg List.length hD
     rw [List.length_drop, List.length_cons] at h1; omega
    have hxi : xs[i] = ((gn, v), rest) := by
     have h1 := congrArg (fun l => l[0]?) hD
     simp only [List.getElem?_drop, Nat.add_zero, List.getElem?_cons_zero] at h1
     rw [List.getElem?_eq_getElem hil] at h1
     exact Option.some.inj h1
    have HD2 : Aside0 (xs.drop (i + 1) = toldF f' (if more = true then 32 :: rest else rest)) := ⟨by rw [List.drop_add_one_eq_tail_drop, hD]; rfl⟩
    have hY' : ∀ W1, J i W1 → YieldAt Fence.wide 0 Tryd.prog l #[.agg #[.string ⟨gn.toArray⟩, .string ⟨v.toArray⟩], .string ⟨rest.toArray⟩] W1 fun e W' =>
      (e = .returned (.bool true) ∧ J (i + 1) W' ∧ W1.heap.size ≤ W'.heap.size ∧ W'.heap[B]? = W1.heap[B]?) ∨ (e = .returned (.bool false) ∧ Jx (i + 1) W') := fun W1 h => by
     have := hY i hil W1 h
     rw [hxi] at this
     exact this
    have HYY := Aside0.mk hY'
    have HJ := Aside0.mk hj
    have HI : Aside0 (i < xs.length) := ⟨hil⟩
    clear hY hY' hxi hD hil hi hj
    have hlr := hl1 rfl
    have hqs : ¬ 9223372036854775807 < 1 + rest.toArray.size := by rw [List.size_toArray]; omega
    clear hl0 hl1 hl2 hl6
    have hbx' := Aside0.mk hbx
    cases has with
    | false =>
     gi_wp2_with (first | (gi_at_call 43; refine (CallsIn.mono (callsIn_wide.2 (h1 _)) ?_); rintro e w' ⟨rfl, hw⟩; obtain rfl := hw.symm; clear hw) | (gi_at_call 44; first | (refine (CallsIn.mono (callsIn_wide.2 (h2 _)) ?_); rintro e w' ⟨rfl, nd, rfl⟩; clear h2) | (refine (CallsIn.mono (callsIn_wide.2 (h3 _)) ?_); rintro e w' ⟨rfl, nd3, rfl⟩; clear h3)) | (gi_at_call 29; refine (CallsIn.mono (callsIn_wide.2 (h4 _)) ?_); rintro e w4 ⟨rfl, hb4⟩; have HB4 : Aside0 (Below wr.heap.size wr w4) := ⟨below_step (pw_below_drewN (Below.refl _ _) (nd + nd3)) hb4⟩; clear hb4 h4) | (gi_at_call 45; refine (CallsIn.mono (callsIn_wide.2 (h5 _)) ?_); rintro e w5 ⟨rfl, hb5⟩; have hk5 := blk_below (heap_alloc_new w4 (.cells #[.string ⟨gn.toArray⟩, .string ⟨v.toArray⟩] 49)) hb5; have hp0 : w5.cell? ⟨w4.heap.size, 0, none⟩ = some (.string ⟨gn.toArray⟩) := blk_cell hk5 0; have hp1 : w5.cell? ⟨w4.heap.size, 1, none⟩ = some (.string ⟨v.toArray⟩) := blk_cell hk5 1; have HB5 : Aside0 (Below wr.heap.size wr w5) := ⟨below_step (below_alloc HB4.out _) hb5⟩; obtain ⟨fnY, tmpsY, assignY, bodyY, hy, hR⟩ := HYY.out w5 (hJ _ _ _ HJ.out (grown_of_below HB5.out _)); clear hb5 h5 hk5))
     refine hR.mono ?_
     rintro e W3 (⟨rfl, hJ3, hs3, hB3⟩ | ⟨rfl, hJ3⟩)
     ·have hbx3 : Boxed W3 B 9 (.string r) := hB3.trans ((HB5.out.block B hbx'.out.lt).trans hbx'.out)
      have hc3 := hbx3.cell
      have hf3 := hbx3.frozen
      clear hB3
      cases more with
      | true =>
       have hm := hl3.2 rfl
       have HR2 : Aside0 (((⟨#[32]⟩ : ByteArray) ++ ⟨rest.toArray⟩).data.toList = 32 :: rest ∧ ((⟨#[32]⟩ : ByteArray) ++ ⟨rest.toArray⟩).size = rest.length + 1) := ⟨by constructor; (simp [ByteArray.data_append]); (rw [ByteArray.size_append]; show 1 + rest.toArray.size = _; rw [List.size_toArray]; omega)⟩
       gi_wp2
       go_roundw
       case rel =>
        exact ⟨i + 1, f', _, HI.out, by rw [HD2.out, HR2.out.1]; rfl, by rw [HR2.out.2]; omega, by rw [HR2.out.2]; omega, (hbx3.set _).set _, hJ _ _ _ (hJ _ _ _ hJ3 (grownBy_setCell' _ _ _)) (grownBy_setCell' _ _ _)⟩
       case measure =>
        have h1 := ((hbx3.set (.string ⟨rest.toArray⟩)).set (.string ((⟨#[32]⟩ : ByteArray) ++ ⟨rest.toArray⟩))).cell
        simp only [strLen, h1, hc]
        rw [HR2.out.2]; omega
      | false =>
       have hm := hl3.1
       gi_wp2
       go_roundw
       case rel =>
        exact ⟨i + 1, f', ⟨rest.toArray⟩, HI.out, by rw [HD2.out]; rfl, by show rest.toArray.size ≤ _; rw [List.size_toArray]; omega, by show rest.toArray.size ≤ _; rw [List.size_toArray]; omega, hbx3.set _, hJ _ _ _ hJ3 (grownBy_setCell' _ _ _)⟩
       case measure =>
        have h1 := (hbx3.set (.string ⟨rest.toArray⟩)).cell
        simp only [strLen, h1, hc]
        show rest.toArray.size < _
        rw [List.size_toArray]; omega
     ·gi_wp2
      refine bodyPost_ret (results_none rfl _ _ _) rfl ?_
      exact ⟨⟨_, rfl⟩, .inr ⟨i + 1, by rw [HXS.out]; exact HI.out, hJ3⟩⟩
    | true =>
     have hve2 : ve = false := by simpa using hhv
     subst hve2
     gi_wp2_with (first | (gi_at_call 43; refine (CallsIn.mono (callsIn_wide.2 (h1 _)) ?_); rintro e w' ⟨rfl, hw⟩; obtain rfl := hw.symm; clear hw) | (gi_at_call 44; first | (refine (CallsIn.mono (callsIn_wide.2 (h2 _)) ?_); rintro e w' ⟨rfl, nd, rfl⟩; clear h2) | (refine (CallsIn.mono (callsIn_wide.2 (h3 _)) ?_); rintro e w' ⟨rfl, nd3, rfl⟩; clear h3)) | (gi_at_call 29; refine (CallsIn.mono (callsIn_wide.2 (h4 _)) ?_); rintro e w4 ⟨rfl, hb4⟩; have HB4 : Aside0 (Below wr.heap.size wr w4) := ⟨below_step (pw_below_drewN (Below.refl _ _) (nd + nd3)) hb4⟩; clear hb4 h4) | (gi_at_call 45; refine (CallsIn.mono (callsIn_wide.2 (h5 _)) ?_); rintro e w5 ⟨rfl, hb5⟩; have hk5 := blk_below (heap_alloc_new w4 (.cells #[.string ⟨gn.toArray⟩, .string ⟨v.toArray⟩] 49)) hb5; have hp0 : w5.cell? ⟨w4.heap.size, 0, none⟩ = some (.string ⟨gn.toArray⟩) := blk_cell hk5 0; have hp1 : w5.cell? ⟨w4.heap.size, 1, none⟩ = some (.string ⟨v.toArray⟩) := blk_cell hk5 1; have HB5 : Aside0 (Below wr.heap.size wr w5) := ⟨below_step (below_alloc HB4.out _) hb5⟩; obtain ⟨fnY, tmpsY, assignY, bodyY, hy, hR⟩ := HYY.out w5 (hJ _ _ _ HJ.out (grown_of_below HB5.out _)); clear hb5 h5 hk5))
     refine hR.mono ?_
     rintro e W3 (⟨rfl, hJ3, hs3, hB3⟩ | ⟨rfl, hJ3⟩)
     ·have hbx3 : Boxed W3 B 9 (.string r) := hB3.trans ((HB5.out.block B hbx'.out.lt).trans hbx'.out)
      have hc3 := hbx3.cell
      have hf3 := hbx3.frozen
      clear hB3
      cases more with
      | true =>
       have hm := hl3.2 rfl
       have HR2 : Aside0 (((⟨#[32]⟩ : ByteArray) ++ ⟨rest.toArray⟩).data.toList = 32 :: rest ∧ ((⟨#[32]⟩ : ByteArray) ++ ⟨rest.toArray⟩).size = rest.length + 1) := ⟨by constructor; (simp [ByteArray.data_append]); (rw [ByteArray.size_append]; show 1 + rest.toArray.size = _; rw [List.size_toArray]; omega)⟩
       gi_wp2
       go_roundw
       case rel =>
        exact ⟨i + 1, f', _, HI.out, by rw [HD2.out, HR2.out.1]; rfl, by rw [HR2.out.2]; omega, by rw [HR2.out.2]; omega, (hbx3.set _).set _, hJ _ _ _ (hJ _ _ _ hJ3 (grownBy_setCell' _ _ _)) (grownBy_setCell' _ _ _)⟩
       case measure =>
        have h1 := ((hbx3.set (.string ⟨rest.toArray⟩)).set (.string ((⟨#[32]⟩ : ByteArray) ++ ⟨rest.toArray⟩))).cell
        simp only [strLen, h1, hc]
        rw [HR2.out.2]; omega
      | false =>
       have hm := hl3.1
       gi_wp2
       go_roundw
       case rel =>
        exact ⟨i + 1, f', ⟨rest.toArray⟩, HI.out, by rw [HD2.out]; rfl, by show rest.toArray.size ≤ _; rw [List.size_toArray]; omega, by show rest.toArray.size ≤ _; rw [List.size_toArray]; omega, hbx3.set _, hJ _ _ _ hJ3 (grownBy_setCell' _ _ _)⟩
       case measure =>
        have h1 := (hbx3.set (.string ⟨rest.toArray⟩)).cell
        simp only [strLen, h1, hc]
        show rest.toArray.size < _
        rw [List.size_toArray]; omega
     ·gi_wp2
      refine bodyPost_ret (results_none rfl _ _ _) rfl ?_
      exact ⟨⟨_, rfl⟩, .inr ⟨i + 1, by rw [HXS.out]; exact HI.out, hJ3⟩⟩
end
theorem loop7 {F : Fence} {n : Nat} {P : Program} {c : Code} {Q : Exit → Act → World → Prop} (J : Nat → Act → World → Prop)
  (hstep : ∀ i a w (K : Act → World → Prop), i < 7 → J i a w → (∀ a' w', J (i + 1) a' w' → K a' w') → c.wpIn F n P (Exit.then K Q) a w)
  (hend : ∀ a w (K : Act → World → Prop), J 7 a w → c.wpIn F n P (Exit.then K Q) a w) {a : Act} {w : World} (h0 : J 0 a w) : (Code.loop c).wpIn F n P Q a w := by
 refine wpIn_loop_rounds 8 ?_
 have key : ∀ m i, i + m = 7 → ∀ a w, J i a w → Code.roundsIn F n P c Q (m + 1) a w := by
  intro m
  induction m with
  | zero =>
   intro i hi a w h; rw [roundsIn_succ]; have : i = 7 := by omega
   subst this; exact hend a w _ h
  | succ m ih => intro i hi a w h; rw [roundsIn_succ]; exact hstep i a w _ (by omega) h (fun a' w' h' => ih (i + 1) (by omega) a' w' h')
 exact key 7 0 rfl a w h0
def parMatch (s : ByteArray) (v : Int) : Bool := Lib.hasPrefix (s.data.toList.map upper) (wordB v).data.toList
theorem hasPrefix_head (l p : List UInt8) (c : UInt8) (h : Lib.hasPrefix l (c :: p) = true) : l.head? = some c := by
 cases l with
 | nil => simp [Lib.hasPrefix, List.isPrefixOf] at h
 | cons d r => simp [Lib.hasPrefix, List.isPrefixOf] at h; simp [h.1]
def headB (v : Int) : UInt8 := if v = 1 then 69 else if v = 2 then 83 else if v = 3 then 77 else if v = 4 then 82 else if v = 5 then 68 else 81
theorem parMatch_head (s : ByteArray) (v : Int) (hv : v = 1 ∨ v = 2 ∨ v = 3 ∨ v = 4 ∨ v = 5 ∨ v = 6) (h : parMatch s v = true) : (s.data.toList.map upper).head? = some (headB v) := by
 unfold parMatch at h
 rcases hv with rfl | rfl | rfl | rfl | rfl | rfl
 all_goals exact hasPrefix_head _ _ _ h
theorem parMatch_one (s : ByteArray) (v v' : Int) (hv : v = 1 ∨ v = 2 ∨ v = 3 ∨ v = 4 ∨ v = 5 ∨ v = 6) (hv' : v' = 1 ∨ v' = 2 ∨ v' = 3 ∨ v' = 4 ∨ v' = 5 ∨ v' = 6) (h : parMatch s v = true) (h' : parMatch s v' = true) : v = v' := by
 have h1 := (parMatch_head s v hv h).symm.trans (parMatch_head s v' hv' h')
 have h2 : headB v = headB v' := Option.some.inj h1
 rcases hv with rfl | rfl | rfl | rfl | rfl | rfl <;> rcases hv' with rfl | rfl | rfl | rfl | rfl | rfl <;> first | rfl | (exfalso; revert h2; decide)
abbrev PRes := Int × ByteArray × List S49 × Int
def errP : PRes := (0, ⟨#[]⟩, [], 4)
def toPar (x : (List UInt8 × List UInt8) × List UInt8) : S49 := ⟨⟨x.1.1.toArray⟩, ⟨x.1.2.toArray⟩⟩
def usedF (n : Nat) (ts : List ((List UInt8 × List UInt8) × List UInt8)) : Int := match ts.getLast? with
 | none => 0
 | some x => (n : Int) - x.2.length
def tryV (v : Int) (arg : ByteArray) : Option PRes :=
 if v = 3 ∨ v = 4 then
  (cmd_path.f (arg.size + 1) arg).bind fun q => if 510 < q.2.1.size then none else if q.2.2 = true then
   (if (usedF q.2.1.size (toldF q.2.1.size q.2.1.data.toList) != (q.2.1.size : Int) || Lib.hasSuffix q.2.1.data.toList [32]) = true then some errP
   else (cmd_May.f 1 v q.1 ((toldF q.2.1.size q.2.1.data.toList).map toPar)).bind fun m => some (if m = true then (v, q.1, (toldF q.2.1.size q.2.1.data.toList).map toPar, 0) else errP))
  else some errP
 else (cmd_May.f 1 v arg []).bind fun m => some (if m = true then (v, arg, [], 0) else errP)
def argOf (s : ByteArray) (v : Int) : ByteArray := s.extract (wordB v).size s.size
def cmd_Parse.f (a0 : ByteArray) : Option PRes :=
 if 510 < a0.size then (if a0.size ≤ 140737488351232 then some (0, ⟨#[]⟩, [], 40) else none)
 else match ([1, 2, 3, 4, 5, 6] : List Int).find? (fun v => parMatch a0 v) with
  | none => some errP
  | some v => tryV v (argOf a0 v)
set_option maxHeartbeats 400000 in
theorem told_calls (s : ByteArray) (w : World) :
  Calls Tryd.prog 31 #[.string s] w fun e w' => e = .returned (.func (.func 42) #[] #[.pointer (some ⟨w.heap.size, 0, none⟩)]) ∧ w' = w.alloc (.cells #[.string s] 9) := by
 go_enter Tryd.func31, Tryd.ntmps31
 go_wp2
 go_ret
 exact ⟨rfl, rfl⟩
def litP (s : ByteArray) (g i : Nat) (u : Nat → Value) : Array Value := #[.string s, u 1, .pointer (some ⟨g, 0, none⟩), .int .i64 0, u 4, u 5, u 6, u 7, u 8, u 9, u 10, u 11, u 12, u 13, u 14, u 15, u 16, .agg wordsA, .int .i64 (i : Int), u 19, u 20, u 21, u 22, u 23, u 24, u 25, u 26, u 27, u 28, u 29, u 30, u 31, u 32, u 33, u 34, u 35, u 36, u 37, u 38, u 39, u 40, u 41, u 42, u 43, u 44, u 45, u 46, u 47, u 48, u 49, u 50, u 51, u 52, u 53, u 54, u 55, u 56, u 57, u 58, u 59, u 60, u 61, u 62, u 63, u 64, u 65, u 66, u 67, u 68, u 69, u 70, u 71, u 72, u 73, u 74, u 75, u 76, u 77, u 78, u 79, u 80, u 81, u 82, u 83, u 84, u 85, u 86]
def FrameP (s : ByteArray) (g i : Nat) (ds : List Deferred) (a : Act) : Prop := ∃ u : Nat → Value, a = { tmps := litP s g i u, defers := ds }
theorem FrameP.mk' {s : ByteArray} {g i : Nat} (tmps : Array Value) (ds : List Deferred) (h : tmps = litP s g i (fun n => tmps.getD n undef)) : FrameP s g i ds { tmps := tmps, defers := ds } := ⟨_, by rw [← h]⟩
def markD (D : Nat) : Deferred := { target := .collected D, args := #[] }
def MarksP (w : World) (ds : List Deferred) (W : World) : Prop := ds = [] ∨ ∃ D, ds = [markD D] ∧ w.heap.size < D ∧ W.heap[D]? = some (.deferred (some []))
theorem leave_parse (w : World) (tmps : Array Value) (ds : List Deferred) (W : World) (hds : MarksP w ds W) (r1 : Int) (r2 : ByteArray) (u : Value) (r3 : List S49) (r4 : Int) (ok : Nat → Prop)
  (hg : W.heap[w.heap.size]? = some (.cells #[.int .u8 r1, .string r2, u] 27 (0, 0))) (hs2 : tmps.getD 2 undef = .pointer (some ⟨w.heap.size, 0, none⟩)) (hs3 : tmps.getD 3 undef = .int .i64 r4)
  (hR : Kd.R k49 49 W w.heap.size ok u r3) (hB : Below w.heap.size w W) :
  bodyPostM Fence.wide 0 Tryd.prog Tryd.f14 (fun e w' => ∃ v2_ : Value, e = .returned (.tuple #[.agg #[.int .u8 r1, .string r2, v2_], .int .i64 r4]) ∧ Kd.R k49 49 w' w.heap.size (fun _ => True) v2_ r3 ∧ Below w.heap.size w w') .ret { tmps := tmps, defers := ds } W := by
 rcases hds with rfl | ⟨D, rfl, hD, hk⟩
 ·refine ⟨_, results_ct rfl tmps W w.heap.size 27 #[.int .u8 r1, .string r2, u] (0, 0) _ hs2 hg Tryd.underlying27 rfl (by kernel_rfl), u, by rw [hs3], Kd.R_mono hR (fun _ _ => trivial), hB⟩
 ·have hg' : W.grownBy (W.putObj D (.deferred none)) (some D) := grownBy_putObj' W D _
  have hgk : (W.putObj D (.deferred none)).heap[w.heap.size]? = some (.cells #[.int .u8 r1, .string r2, u] 27 (0, 0)) := (World.putObj_heap_other (by omega)).trans hg
  refine ⟨by simp, .inl ⟨_, _, rfl, run_takeDeferred hk, ?_⟩⟩
  refine ⟨_, results_ct rfl tmps _ w.heap.size 27 #[.int .u8 r1, .string r2, u] (0, 0) _ hs2 hgk Tryd.underlying27 rfl (by kernel_rfl), u, by rw [hs3], ?_, hB.trans (belowK_b (w := w) (Nat.le_refl _) W D _ _ (by omega) hk rfl rfl)⟩
  exact Kd.R_mono (R_grown rfl hR hg' (fun r e => by cases e; exact .inr ⟨_, hk, rfl⟩)) (fun _ _ => trivial)
structure ParseI (w : World) (g6 g8 g10 B : Nat) (v : Int) (q1 q2 : ByteArray) (xs : List S49) (us : Int) (W : World) : Prop where
 R : ∃ u, Kd.R k49 49 W w.heap.size (fun k => k ≠ B) u xs ∧ W.heap[g6]? = some (.cells #[.int .u8 v, .string q1, u] 27 (0, 0))
 B8 : W.heap[g8]? = some (.cells #[.string q2] 9 (0, 0))
 B10 : W.heap[g10]? = some (.cells #[.int .i64 us] 3 (0, 0))
 G : W.heap[w.heap.size]? = some (.cells #[.int .u8 0, .string ⟨#[]⟩, .slice none 0 0] 27 (0, 0))
 Bel : Below w.heap.size w W
theorem cellblk_kept {W W' : World} {row : Option Nat} {g b B : Nat} {cs : Array Value} {t : TypeId} (h : W.heap[g]? = some (.cells cs t (0, 0))) (hg : W.grownBy W' row)
  (hr : ∀ r, row = some r → r = B ∨ (b ≤ r ∧ ∃ o : Obj, W.heap[r]? = some o ∧ o.isCells = false)) (hne : g ≠ B) : W'.heap[g]? = some (.cells cs t (0, 0)) :=
 (hg.block g (blk_lt h) (fun e => by
  rcases hr g e.symm with e' | ⟨_, o, ho, hc⟩
  ·exact hne e'
  ·rw [h] at ho; cases ho; simp [Obj.isCells] at hc)).trans h
theorem ParseI.grown {w : World} {g6 g8 g10 B b : Nat} {v : Int} {q1 q2 : ByteArray} {xs : List S49} {us : Int} {W W' : World} {row : Option Nat} (h : ParseI w g6 g8 g10 B v q1 q2 xs us W) (hg : W.grownBy W' row)
  (hr : ∀ r, row = some r → r = B ∨ (b ≤ r ∧ ∃ o : Obj, W.heap[r]? = some o ∧ o.isCells = false)) (h6 : g6 ≠ B) (h8 : g8 ≠ B) (h10 : g10 ≠ B) (hw : w.heap.size < B) (hwb : w.heap.size ≤ b) : ParseI w g6 g8 g10 B v q1 q2 xs us W' := by
 obtain ⟨u, hR, hk⟩ := h.R
 exact ⟨⟨u, R_grown rfl hR hg (fun r e => (hr r e).elim (fun e' => .inl (fun hne => hne e')) (fun o => .inr o.2)), cellblk_kept hk hg hr h6⟩, cellblk_kept h.B8 hg hr h8, cellblk_kept h.B10 hg hr h10, cellblk_kept h.G hg hr (by omega), below_ownB h.Bel h.Bel.size hg hr hwb (by omega)⟩
theorem ParseI.step {w : World} {g6 g8 g10 B b : Nat} {v : Int} {q1 q2 : ByteArray} {xs : List S49} {us : Int} {W W1 : World} (h : ParseI w g6 g8 g10 B v q1 q2 xs us W) {u v1 : Value} {p : S49} (us' : Int)
  (hR : Kd.R k49 49 W w.heap.size (fun k => k ≠ B) u xs) (hk : W.heap[g6]? = some (.cells #[.int .u8 v, .string q1, u] 27 (0, 0)))
  (HO : Kd.R k49 49 W1 w.heap.size (fun k => k ≠ B) v1 (xs ++ [p])) (hB1 : Below w.heap.size w W1) (hg : W.grownBy W1 u.ownBlock)
  (hBl : B < W.heap.size) (h610 : g6 ≠ g10) (h6 : g6 ≠ B) (h10 : g10 ≠ B) (h86 : g8 ≠ g6) (h810 : g8 ≠ g10) (hw6 : w.heap.size < g6) (hw10 : w.heap.size < g10) :
  KeepsFrom b W ((W1.setCell ⟨g6, 2, none⟩ v1).setCell ⟨g10, 0, none⟩ (.int .i64 us')) ∧ ((W1.setCell ⟨g6, 2, none⟩ v1).setCell ⟨g10, 0, none⟩ (.int .i64 us')).heap[B]? = W.heap[B]? ∧
   ParseI w g6 g8 g10 B v q1 q2 (xs ++ [p]) us' ((W1.setCell ⟨g6, 2, none⟩ v1).setCell ⟨g10, 0, none⟩ (.int .i64 us')) := by
 have n6 : some g6 ≠ u.ownBlock := fun e => ((Kd.R_types hR hk (by decide)).1 _ e.symm).2 rfl
 have n8 : some g8 ≠ u.ownBlock := fun e => ((Kd.R_types hR h.B8 (by decide)).1 _ e.symm).2 rfl
 have n10 : some g10 ≠ u.ownBlock := fun e => ((Kd.R_types hR h.B10 (by decide)).1 _ e.symm).2 rfl
 have nw : some w.heap.size ≠ u.ownBlock := fun e => ((Kd.R_types hR h.G (by decide)).1 _ e.symm).2 rfl
 have nB : some B ≠ u.ownBlock := fun e => hR.1 _ e.symm rfl
 have k6 := blk_grown hk hg n6
 have k8 := blk_grown h.B8 hg n8
 have k10 := blk_grown h.B10 hg n10
 have kw := blk_grown h.G hg nw
 have hko : KeepsOthers W W1 := KeepsOthers.of_grownBy hg (fun j o hj ho => by
  obtain ⟨inner, hown⟩ := Kd.R_own hR
  rcases hown.2 with ⟨hv, _⟩ | ⟨g', cap, cur, hv, _, hh, _⟩
  ·rw [hv] at hj; simp [Value.ownBlock] at hj
  ·rw [hv] at hj
   have : g' = j := by simpa [Value.ownBlock] using hj
   subst this
   rw [ho] at hh; cases hh; rfl)
 have k10' : (W1.setCell ⟨g6, 2, none⟩ v1).heap[g10]? = some (.cells #[.int .i64 us] 3 (0, 0)) := blk_far k10 (p := ⟨g6, 2, none⟩) (fun e => h610 e.symm) v1
 refine ⟨((hko.trans (KeepsOthers.setCell _ _ _)).trans (KeepsOthers.setCell _ _ _)).from b, ?_, ⟨v1, Kd.R_set (Kd.R_set HO k6 (by decide) 2 v1) k10' (by decide) 0 _, ?_⟩, ?_, blk_put k10' 0 _ rfl, ?_, ?_⟩
 ·exact (Below.heap_setCell _ ⟨g10, 0, none⟩ _ B (fun e => h10 e.symm)).trans ((Below.heap_setCell _ ⟨g6, 2, none⟩ _ B (fun e => h6 e.symm)).trans (hg.block B hBl nB))
 ·exact blk_far (blk_put k6 2 v1 rfl) (p := ⟨g10, 0, none⟩) h610 _
 ·exact blk_far (blk_far k8 (p := ⟨g6, 2, none⟩) h86 _) (p := ⟨g10, 0, none⟩) h810 _
 ·exact blk_far (blk_far kw (p := ⟨g6, 2, none⟩) (by show w.heap.size ≠ g6; omega) _) (p := ⟨g10, 0, none⟩) (by show w.heap.size ≠ g10; omega) _
 ·exact (hB1.setCell (p := ⟨g6, 2, none⟩) (by show w.heap.size ≤ g6; omega) _).setCell (p := ⟨g10, 0, none⟩) (by show w.heap.size ≤ g10; omega) _
theorem usedF_succ (n : Nat) (ts : List ((List UInt8 × List UInt8) × List UInt8)) (i : Nat) (h : i < ts.length) : usedF n (ts.take (i + 1)) = (n : Int) - ts[i].2.length := by
 unfold usedF; rw [List.take_succ_eq_append_getElem h, List.getLast?_concat]
theorem toldF_small (k : Nat) : ∀ (s : List UInt8), ∀ x ∈ toldF k s, x.2.length ≤ s.length ∧ x.1.1.length ≤ s.length ∧ x.1.2.length ≤ s.length := by
 induction k with
 | zero => intro s x hx; simp [toldF] at hx
 | succ k ih =>
  intro s x hx
  by_cases h : s = []
  ·simp [toldF, h] at hx
  ·rw [toldF_succ _ _ h] at hx
   have l0 := trim_len s [32]
   have l1 := cut_len1 (Lib.trimPrefix s [32]) 32
   have l2 := cut_lt (Lib.trimPrefix s [32]) 32
   have l3 := cut_len1 (Lib.cut (Lib.trimPrefix s [32]) [32]).1 61
   have l4 := (cut_lt (Lib.cut (Lib.trimPrefix s [32]) [32]).1 61).1
   split at hx
   ·simp at hx
   ·rename_i hb
    have hp : Lib.hasPrefix s [32] = true := by
     cases hq : Lib.hasPrefix s [32] with
     | true => rfl
     | false => exact absurd (by rw [hq]; rfl) hb
    have l5 := trim_lt s hp
    rcases List.mem_cons.1 hx with rfl | hx
    ·simp only [List.length_map]; omega
    ·have := ih _ x hx
     split at this
     ·rename_i hm
      have := l2.2 hm
      simp only [List.length_cons] at *
      omega
     ·omega
theorem toldF_len (k : Nat) : ∀ (s : List UInt8), (toldF k s).length ≤ k := by
 induction k with
 | zero => intro s; simp [toldF]
 | succ k ih =>
  intro s
  by_cases h : s = []
  ·simp [toldF, h]
  ·rw [toldF_succ _ _ h]
   split
   ·simp
   ·simp only [List.length_cons]; have := ih (if (Lib.cut (Lib.trimPrefix s [32]) [32]).2.2 = true then 32 :: (Lib.cut (Lib.trimPrefix s [32]) [32]).2.1 else (Lib.cut (Lib.trimPrefix s [32]) [32]).2.1); omega
def litQ (g6 g8 g10 p : Nat) (rest : ByteArray) (u : Nat → Value) : Array Value := #[u 0, u 1, u 2, u 3, u 4, u 5, .pointer (some ⟨g6, 0, none⟩), u 7, .pointer (some ⟨g8, 0, none⟩), u 9, .pointer (some ⟨g10, 0, none⟩), .pointer (some ⟨p, 0, none⟩), .string rest, u 13, u 14, u 15, u 16, u 17, u 18, u 19, u 20, u 21, u 22, u 23, u 24, u 25, u 26, u 27, u 28, u 29, u 30, u 31, u 32, u 33, u 34, u 35, u 36, u 37, u 38, u 39, u 40, u 41, u 42, u 43, u 44, u 45, u 46, u 47, u 48, u 49, u 50, u 51, u 52, u 53, u 54, u 55, u 56, u 57, u 58, u 59, u 60, u 61, u 62, u 63, u 64, u 65, u 66, u 67, u 68, u 69, u 70, u 71, u 72, u 73, u 74, u 75, u 76, u 77, u 78, u 79, u 80, u 81, u 82, u 83, u 84, u 85, u 86]
def GQ (g6 g8 g10 b : Nat) (x : (List UInt8 × List UInt8) × List UInt8) (a' : Act) (W : World) : Prop := ∃ (u : Nat → Value) (p : Nat), a' = { tmps := litQ g6 g8 g10 p ⟨x.2.toArray⟩ u, defers := [] } ∧ b ≤ p ∧ W.heap[p]? = some (.cells #[.string ⟨x.1.1.toArray⟩, .string ⟨x.1.2.toArray⟩] 49 (0, 0))
theorem GQ.mk' {g6 g8 g10 b : Nat} {x : (List UInt8 × List UInt8) × List UInt8} {tmps : Array Value} {W : World} (p : Nat) (h : tmps = litQ g6 g8 g10 p ⟨x.2.toArray⟩ (fun n => tmps.getD n undef)) (hb : b ≤ p) (hk : W.heap[p]? = some (.cells #[.string ⟨x.1.1.toArray⟩, .string ⟨x.1.2.toArray⟩] 49 (0, 0))) : GQ g6 g8 g10 b x { tmps := tmps, defers := [] } W := ⟨_, p, by rw [← h], hb, hk⟩
theorem gQ_own {g6 g8 g10 b B : Nat} (hbB : B < b) (x : (List UInt8 × List UInt8) × List UInt8) (a' : Act) : OwnB b B (fun (_ : Unit) W => GQ g6 g8 g10 b x a' W) := by
 rintro _ W W' row ⟨u, p, ha, hb, hk⟩ hg hr
 exact ⟨u, p, ha, hb, cellblk_kept hk hg hr (by omega)⟩
section
attribute [local go_sem] Oper.semAt_some wide_fn wide_depth
def ABP (s : ByteArray) (w : World) (res : PRes) (i : Nat) (ds : List Deferred) : Prop :=
 (ds = [] ∧ ∀ j : Nat, 1 ≤ j → j < i → parMatch s (j : Int) = false) ∨ (res = errP ∧ ∀ j : Nat, 1 ≤ j → i ≤ j → j < 7 → parMatch s (j : Int) = false)
theorem MarksP.setCell {w : World} {ds : List Deferred} {W : World} (h : MarksP w ds W) (i : Nat) (u : Value) : MarksP w ds (W.setCell ⟨w.heap.size, i, none⟩ u) := by
 rcases h with h | ⟨D, h1, h2, h3⟩
 ·exact .inl h
 ·exact .inr ⟨D, h1, h2, (Below.heap_setCell W ⟨w.heap.size, i, none⟩ u D (by show D ≠ w.heap.size; omega)).trans h3⟩
theorem MarksP.below {w : World} {ds : List Deferred} {W W' : World} (h : MarksP w ds W) (hb : Below W.heap.size W W') : MarksP w ds W' := by
 rcases h with h | ⟨D, h1, h2, h3⟩
 ·exact .inl h
 ·exact .inr ⟨D, h1, h2, (hb.block D (blk_lt h3)).trans h3⟩
theorem leave_err (w : World) (tmps : Array Value) (ds : List Deferred) (W : World) (hds : MarksP w ds W) (er : Int) (r1 : Int) (r2 : ByteArray) (r3 : List S49) (r4 : Int) (hE : (r1, r2, r3, r4) = (((0 : Int), (⟨#[]⟩ : ByteArray), ([] : List S49), er) : PRes))
  (hg : W.heap[w.heap.size]? = some (.cells #[.int .u8 0, .string ⟨#[]⟩, .slice none 0 0] 27 (0, 0))) (hs2 : tmps.getD 2 undef = .pointer (some ⟨w.heap.size, 0, none⟩)) (hs3 : tmps.getD 3 undef = .int .i64 er) (hB : Below w.heap.size w W) :
  bodyPostM Fence.wide 0 Tryd.prog Tryd.f14 (fun e w' => ∃ v2_ : Value, e = .returned (.tuple #[.agg #[.int .u8 r1, .string r2, v2_], .int .i64 r4]) ∧ Kd.R k49 49 w' w.heap.size (fun _ => True) v2_ r3 ∧ Below w.heap.size w w') .ret { tmps := tmps, defers := ds } (((W.setCell ⟨w.heap.size, 0, none⟩ (.int .u8 0)).setCell ⟨w.heap.size, 1, none⟩ (.string ⟨#[]⟩)).setCell ⟨w.heap.size, 2, none⟩ (.slice none 0 0)) := by
 cases hE
 refine leave_parse w tmps ds _ (((hds.setCell _ _).setCell _ _).setCell _ _) 0 ⟨#[]⟩ (.slice none 0 0) [] er (fun _ => True) ?_ hs2 hs3 (Kd.R_nil _ _ _ _ _) (by repeat (first | exact hB | refine below_set ?_ (Nat.le_refl _)))
 refine blk_put (cs := #[.int .u8 0, .string ⟨#[]⟩, .slice none 0 0]) ?_ 2 _ rfl; refine blk_put (cs := #[.int .u8 0, .string ⟨#[]⟩, .slice none 0 0]) ?_ 1 _ rfl; refine blk_put (cs := #[.int .u8 0, .string ⟨#[]⟩, .slice none 0 0]) ?_ 0 _ rfl; exact hg
theorem leave_ok (w : World) (tmps : Array Value) (ds : List Deferred) (W : World) (hds : MarksP w ds W) (r1 : Int) (r2 : ByteArray) (u : Value) (r3 : List S49) (r4 : Int) (ok : Nat → Prop)
  (hg : W.heap[w.heap.size]? = some (.cells #[.int .u8 0, .string ⟨#[]⟩, .slice none 0 0] 27 (0, 0))) (hs2 : tmps.getD 2 undef = .pointer (some ⟨w.heap.size, 0, none⟩)) (hs3 : tmps.getD 3 undef = .int .i64 r4) (hR : Kd.R k49 49 W w.heap.size ok u r3) (hB : Below w.heap.size w W) :
  bodyPostM Fence.wide 0 Tryd.prog Tryd.f14 (fun e w' => ∃ v2_ : Value, e = .returned (.tuple #[.agg #[.int .u8 r1, .string r2, v2_], .int .i64 r4]) ∧ Kd.R k49 49 w' w.heap.size (fun _ => True) v2_ r3 ∧ Below w.heap.size w w') .ret { tmps := tmps, defers := ds } (((W.setCell ⟨w.heap.size, 0, none⟩ (.int .u8 r1)).setCell ⟨w.heap.size, 1, none⟩ (.string r2)).setCell ⟨w.heap.size, 2, none⟩ u) := by
 refine leave_parse w tmps ds _ (((hds.setCell _ _).setCell _ _).setCell _ _) r1 r2 u r3 r4 (fun _ => True) ?_ hs2 hs3 (Kd.R_mono (Kd.R_far (p := ⟨w.heap.size, 2, none⟩) (Kd.R_far (p := ⟨w.heap.size, 1, none⟩) (Kd.R_far (p := ⟨w.heap.size, 0, none⟩) (Kd.R_types hR hg (by decide)) (fun _ hk => hk.2) (.int .u8 r1)) (fun _ hk => hk.2) (.string r2)) (fun _ hk => hk.2) u) (fun _ _ => trivial)) (by repeat (first | exact hB | refine below_set ?_ (Nat.le_refl _)))
 refine blk_put (cs := #[.int .u8 r1, .string r2, .slice none 0 0]) ?_ 2 _ rfl; refine blk_put (cs := #[.int .u8 r1, .string ⟨#[]⟩, .slice none 0 0]) ?_ 1 _ rfl; refine blk_put (cs := #[.int .u8 0, .string ⟨#[]⟩, .slice none 0 0]) ?_ 0 _ rfl; exact hg
structure PathF (w w3 w4 : World) (i : Int) (arg q1 q2 : ByteArray) : Prop where
 lt : w3.heap.size < w4.heap.size
 ne : ¬ w4.heap.size = w3.heap.size
 K4 : w4.heap[w3.heap.size]? = some (.cells #[.int .u8 i, .string arg, .slice none 0 0] 27 (0, 0))
 G4 : w4.heap[w.heap.size]? = some (.cells #[.int .u8 0, .string ⟨#[]⟩, .slice none 0 0] 27 (0, 0))
 B4 : Below w.heap.size w w4
 wlt : w.heap.size < w3.heap.size
theorem PathF.of {w w3 w4 : World} {i : Int} {arg : ByteArray} (q1 q2 : ByteArray) (hB3 : Below w.heap.size w w3) (hG3 : w3.heap[w.heap.size]? = some (.cells #[.int .u8 0, .string ⟨#[]⟩, .slice none 0 0] 27 (0, 0)))
  (hb : Below (w3.alloc (.cells #[.int .u8 i, .string arg, .slice none 0 0] 27)).heap.size (w3.alloc (.cells #[.int .u8 i, .string arg, .slice none 0 0] 27)) w4) : PathF w w3 w4 i arg q1 q2 := by
 have hal : Below w3.heap.size w3 w4 := below_step (below_alloc (Below.refl _ _) _) hb
 have hk4 := blk_below (heap_alloc_new w3 _) hb
 exact ⟨blk_lt hk4, by have := blk_lt hk4; omega, hk4, blk_below hG3 hal, below_step hB3 hal, blk_lt hG3⟩
section
variable {w w3 w4 : World} {i : Int} {arg q1 q2 : ByteArray} (h : PathF w w3 w4 i arg q1 q2)
include h
theorem PathF.K5 : (w4.alloc (.cells #[.string q2] 9)).heap[w3.heap.size]? = some (.cells #[.int .u8 i, .string arg, .slice none 0 0] 27 (0, 0)) := blk_alloc h.K4 _
theorem PathF.G5 : (w4.alloc (.cells #[.string q2] 9)).heap[w.heap.size]? = some (.cells #[.int .u8 0, .string ⟨#[]⟩, .slice none 0 0] 27 (0, 0)) := blk_alloc h.G4 _
theorem PathF.B5 : Below w.heap.size w (w4.alloc (.cells #[.string q2] 9)) := below_alloc h.B4 _
theorem PathF.k51 : (w4.alloc (.cells #[.string q2] 9)).cell? ⟨w3.heap.size, 1, none⟩ = some (.string arg) := blk_cell h.K5 1
theorem PathF.g50 : (w4.alloc (.cells #[.string q2] 9)).cell? ⟨w.heap.size, 0, none⟩ = some (.int .u8 0) := blk_cell h.G5 0
theorem PathF.g51 : (w4.alloc (.cells #[.string q2] 9)).cell? ⟨w.heap.size, 1, none⟩ = some (.string ⟨#[]⟩) := blk_cell h.G5 1
theorem PathF.g52 : (w4.alloc (.cells #[.string q2] 9)).cell? ⟨w.heap.size, 2, none⟩ = some (.slice none 0 0) := blk_cell h.G5 2
theorem PathF.l58 : (((w4.alloc (.cells #[.string q2] 9)).setCell ⟨w3.heap.size, 1, none⟩ (.string q1)).alloc (.cells #[.int .i64 0] 3)).cell? ⟨w4.heap.size, 0, none⟩ = some (.string q2) :=
 blk_cell (blk_alloc (blk_far (heap_alloc_new w4 (.cells #[.string q2] 9)) (p := ⟨w3.heap.size, 1, none⟩) h.ne (.string q1)) (.cells #[.int .i64 0] 3)) 0
end
set_option maxHeartbeats 40000000 in
set_option maxRecDepth 100000 in
theorem parse_in (s : ByteArray) (w : World) (hs : s.size ≤ 510) (r1 : Int) (r2 : ByteArray) (r3 : List S49) (r4 : Int) (hres : cmd_Parse.f s = some (r1, r2, r3, r4)) :
  CallsIn Fence.wide 0 Tryd.prog 14 #[.string s] w fun e w' => ∃ v2_ : Value, e = .returned (.tuple #[.agg #[.int .u8 r1, .string r2, v2_], .int .i64 r4]) ∧ Kd.R k49 49 w' w.heap.size (fun _ => True) v2_ r3 ∧ Below w.heap.size w w' := by
 have hne : ∀ i : Nat, 1 ≤ i → i < 7 → parMatch s (i : Int) = true → tryV (i : Int) (argOf s (i : Int)) = some (r1, r2, r3, r4) := by
  intro i h1 h7 hm
  unfold cmd_Parse.f at hres
  rw [if_neg (by omega)] at hres
  have hi : (i : Int) = 1 ∨ (i : Int) = 2 ∨ (i : Int) = 3 ∨ (i : Int) = 4 ∨ (i : Int) = 5 ∨ (i : Int) = 6 := by omega
  cases hf : ([1, 2, 3, 4, 5, 6] : List Int).find? (fun v => parMatch s v) with
  | none =>
   have := List.find?_eq_none.1 hf (i : Int) (by simp; omega)
   exact absurd hm this
  | some v =>
   rw [hf] at hres
   have hv := List.mem_of_find?_eq_some hf
   have hpv := List.find?_some hf
   have e : v = (i : Int) := parMatch_one s v (i : Int) (by simpa using hv) hi hpv hm
   rw [← e]; exact hres
 have hnone : (∀ j : Nat, 1 ≤ j → j < 7 → parMatch s (j : Int) = false) → (r1, r2, r3, r4) = errP := by
  intro h
  unfold cmd_Parse.f at hres
  rw [if_neg (by omega)] at hres
  have hf : ([1, 2, 3, 4, 5, 6] : List Int).find? (fun v => parMatch s v) = none := by
   rw [List.find?_eq_none]
   intro v hv
   have hv' : v = 1 ∨ v = 2 ∨ v = 3 ∨ v = 4 ∨ v = 5 ∨ v = 6 := by simpa using hv
   have := h v.toNat (by omega) (by omega)
   rw [show ((v.toNat : Nat) : Int) = v by omega] at this
   simp [this]
  rw [hf] at hres
  exact (Option.some.inj hres).symm
 have HNE := Aside0.mk hne
 have HNONE := Aside0.mk hnone
 clear hne hnone hres
 have h510 : decide (510 < (s.size : Int)) = false := decide_eq_false (by omega)
 refine callsIn_of_wp_marks Tryd.func14 rfl trivial ?_ rfl
 simp only [Tryd.ntmps14, List.size_toArray, List.length_cons, List.length_nil, Nat.reduceAdd, Nat.reduceSub, Array.replicate_succ, Array.replicate_zero, List.push_toArray, List.append_toArray, List.nil_append, List.cons_append]
 gi_wp2_with (gi_at_call 26; refine (CallsIn.mono (callsIn_wide.2 (words_calls _)) ?_); rintro e w2 ⟨rfl, hb⟩; have HK2 := Aside0.mk (blk_below (heap_alloc_new w (.cells #[.int .u8 0, .string ⟨#[]⟩, .slice none 0 0] 27)) hb); have HB2 := Aside0.mk (below_step (below_alloc (Below.refl w.heap.size w) _) hb); clear hb)
 refine loop7 (fun i a W => ∃ ds, FrameP s w.heap.size i ds a ∧ Below w.heap.size w W ∧ W.heap[w.heap.size]? = some (.cells #[.int .u8 0, .string ⟨#[]⟩, .slice none 0 0] 27 (0, 0)) ∧ MarksP w ds W ∧ ABP s w (r1, r2, r3, r4) i ds) ?hstep ?hend ?h0
 case h0 =>
  exact ⟨[], FrameP.mk' _ _ rfl, HB2.out, HK2.out, .inl rfl, .inl ⟨rfl, fun j h1 h2 => absurd h2 (Nat.not_lt_zero _)⟩⟩
 case hend =>
  intro a W K hJ
  obtain ⟨ds, hF, hB, hG, hM, hAB⟩ := hJ
  have HE : Aside0 ((r1, r2, r3, r4) = errP) := ⟨by
   rcases hAB with ⟨_, h⟩ | ⟨h, _⟩
   ·exact HNONE.out (fun j h1 h2 => h j h1 h2)
   ·exact h⟩
  have HB := Aside0.mk hB
  have HG := Aside0.mk hG
  have HM := Aside0.mk hM
  clear hB hG hM hAB HNE HNONE HB2 HK2
  obtain ⟨u, rfl⟩ := hF
  unfold litP
  have hg0 := blk_frozen HG.out 0
  have hg1 := blk_frozen HG.out 1
  have hg2 := blk_frozen HG.out 2
  have hc0 : W.cell? ⟨w.heap.size, 0, none⟩ = some (.int .u8 0) := blk_cell HG.out 0
  have hc1 : W.cell? ⟨w.heap.size, 1, none⟩ = some (.string ⟨#[]⟩) := blk_cell HG.out 1
  have hc2 : W.cell? ⟨w.heap.size, 2, none⟩ = some (.slice none 0 0) := blk_cell HG.out 2
  gi_wp2
  exact leave_err w _ ds W HM.out 4 r1 r2 r3 r4 HE.out HG.out rfl rfl HB.out
 case hstep =>
  intro i a W K hi hJ hK
  obtain ⟨ds, hF, hB, hG, hM, hAB⟩ := hJ
  have HK := Aside0.mk hK
  have HB := Aside0.mk hB
  have HG := Aside0.mk hG
  have HM := Aside0.mk hM
  have HAB := Aside0.mk hAB
  clear hK hB hG hM hAB HB2 HK2
  have hgr : ∀ W, Calls Tryd.prog 29 #[.string s] W fun e w' => e = .returned (.string ⟨(s.data.toList.map upper).toArray⟩) ∧ Below W.heap.size W w' := fun W => great_any s W (by omega)
  have hix : (i : Int) < 7 := by omega
  by_cases hm : i = 0 ∨ parMatch s (i : Int) = false
  ·have hnext : ABP s w (r1, r2, r3, r4) (i + 1) ds := by
    rcases HAB.out with ⟨h1, h2⟩ | ⟨h1, h2⟩
    ·refine .inl ⟨h1, fun j hj1 hj2 => ?_⟩
     by_cases e : j = i
     ·subst e; rcases hm with h | h
      ·omega
      ·exact h
     ·exact h2 j hj1 (by omega)
    ·exact .inr ⟨h1, fun j hj1 hj2 hj3 => h2 j hj1 (by omega) hj3⟩
   have HN := Aside0.mk hnext
   clear hnext HAB HNE HNONE
   obtain ⟨u, rfl⟩ := hF
   unfold litP
   by_cases hi0 : i = 0
   ·subst hi0
    have hrw : ∀ W, (Instr.index 61 (.agg wordsA) (.int .i64 0)).run Tryd.prog W = .ok (.string ⟨#[]⟩) W := fun W => run_words .i64 0 (by decide) W
    clear hm
    gi_wp2
    exact HK.out _ _ ⟨ds, FrameP.mk' _ _ rfl, HB.out, HG.out, HM.out, HN.out⟩
   ·have hv : (i : Int) = 1 ∨ (i : Int) = 2 ∨ (i : Int) = 3 ∨ (i : Int) = 4 ∨ (i : Int) = 5 ∨ (i : Int) = 6 := by omega
    have hrw : ∀ W, (Instr.index 61 (.agg wordsA) (.int .i64 (i : Int))).run Tryd.prog W = .ok (.string (wordB (i : Int))) W := fun W => run_wordB .i64 _ hv W
    have hpm : parMatch s (i : Int) = false := hm.resolve_left hi0
    have hpf : ∀ W, Calls Tryd.prog 28 #[.string ⟨(s.data.toList.map upper).toArray⟩, .string (wordB (i : Int))] W fun e w' => e = .returned (.bool false) ∧ w' = W := fun W => by
     have := Tryd.strings_HasPrefix ⟨(s.data.toList.map upper).toArray⟩ (wordB (i : Int)) W
     rw [show Lib.hasPrefix (⟨(s.data.toList.map upper).toArray⟩ : ByteArray).data.toList (wordB (i : Int)).data.toList = false from hpm] at this
     exact this
    have hwe : (wordB (i : Int)).toList.isEmpty = false := by
     rw [Lib.toList_data]
     rcases hv with h | h | h | h | h | h <;> rw [h] <;> rfl
    generalize wordB (i : Int) = wb at hrw hpf hwe
    clear hm hpm hv
    gi_wp2_with (first | (gi_at_call 29; refine (CallsIn.mono (callsIn_wide.2 (hgr _)) ?_); rintro e w3 ⟨rfl, hb⟩; have HB3 := Aside0.mk (below_step HB.out hb); have HG3 := Aside0.mk (blk_below HG.out hb); have HM3 := Aside0.mk (HM.out.below hb); clear hb) | (gi_at_call 28; refine (CallsIn.mono (callsIn_wide.2 (hpf _)) ?_); rintro e w' ⟨rfl, hw⟩; obtain rfl := hw.symm; clear hw))
    exact HK.out _ _ ⟨ds, FrameP.mk' _ _ rfl, HB3.out, HG3.out, HM3.out, HN.out⟩
  ·have hi1 : 1 ≤ i := by omega
   have hv : (i : Int) = 1 ∨ (i : Int) = 2 ∨ (i : Int) = 3 ∨ (i : Int) = 4 ∨ (i : Int) = 5 ∨ (i : Int) = 6 := by omega
   have hpm : parMatch s (i : Int) = true := by
    cases h : parMatch s (i : Int) with
    | true => rfl
    | false => exact absurd (.inr h) hm
   have hds : ds = [] := by
    rcases HAB.out with ⟨h1, _⟩ | ⟨_, h2⟩
    ·exact h1
    ·have := h2 i hi1 (Nat.le_refl _) hi; rw [hpm] at this; cases this
   subst hds
   have htry := HNE.out i hi1 hi hpm
   have hafter : ∀ ds, (r1, r2, r3, r4) = errP → ABP s w (r1, r2, r3, r4) (i + 1) ds := fun ds he => .inr ⟨he, fun j hj1 hj2 hj3 => by
    cases h : parMatch s (j : Int) with
    | false => rfl
    | true =>
     have := parMatch_one s (i : Int) (j : Int) hv (by omega) hpm h
     omega⟩
   have HA := Aside0.mk hafter
   have HTRY := Aside0.mk htry
   have hle : (wordB (i : Int)).size ≤ s.size := by
    have h1 : (wordB (i : Int)).data.toList.length ≤ (s.data.toList.map upper).length := by
     have h2 := Lib.hasPrefix_of_take (s.data.toList.map upper) (wordB (i : Int)).data.toList
     rw [show Lib.hasPrefix (s.data.toList.map upper) (wordB (i : Int)).data.toList = true from hpm] at h2
     simp only [Bool.and_eq_true, decide_eq_true_eq] at h2
     exact h2.1
    rw [List.length_map, len_eq, len_eq] at h1; exact h1
   clear hafter htry HAB HNE HNONE
   have hrw : ∀ W, (Instr.index 61 (.agg wordsA) (.int .i64 (i : Int))).run Tryd.prog W = .ok (.string (wordB (i : Int))) W := fun W => run_wordB .i64 _ hv W
   have hpf : ∀ W, Calls Tryd.prog 28 #[.string ⟨(s.data.toList.map upper).toArray⟩, .string (wordB (i : Int))] W fun e w' => e = .returned (.bool true) ∧ w' = W := fun W => by
    have := Tryd.strings_HasPrefix ⟨(s.data.toList.map upper).toArray⟩ (wordB (i : Int)) W
    rw [show Lib.hasPrefix (⟨(s.data.toList.map upper).toArray⟩ : ByteArray).data.toList (wordB (i : Int)).data.toList = true from hpm] at this
    exact this
   have hwe : (wordB (i : Int)).toList.isEmpty = false := by
    rw [Lib.toList_data]
    rcases hv with h | h | h | h | h | h <;> rw [h] <;> rfl
   obtain ⟨arg, harg⟩ : ∃ arg, arg = argOf s (i : Int) := ⟨_, rfl⟩
   have harg2 : s.extract (wordB (i : Int)).size s.size = arg := harg.symm
   rw [← harg] at HTRY
   clear harg
   generalize wordB (i : Int) = wb at hrw hpf hwe hle harg2
   have hlez : (wb.size : Int) ≤ (s.size : Int) := by omega
   clear hm hpm
   obtain ⟨u, rfl⟩ := hF
   unfold litP
   have hm8 : (i : Int) % 256 = (i : Int) := by omega
   by_cases hp : (i : Int) = 3 ∨ (i : Int) = 4
   ·have ht := HTRY.out
    unfold tryV at ht
    rw [if_pos hp] at ht
    obtain ⟨⟨q1, q2, is⟩, hpath, ht⟩ := Option.bind_eq_some_iff.1 ht
    simp only at ht
    have hq2 : q2.size ≤ 510 := by
     by_cases h : 510 < q2.size
     ·rw [if_pos h] at ht; cases ht
     ·omega
    rw [if_neg (by omega)] at ht
    have hpc : ∀ W, Calls Tryd.prog 30 #[.string arg] W fun e w' => e = .returned (.tuple #[.string q1, .string q2, .bool is]) ∧ Below W.heap.size W w' := fun W => cmd_path.calls _ arg q1 q2 is W hpath
    clear hpath HTRY
    cases is with
    | false =>
     have HE : Aside0 ((r1, r2, r3, r4) = errP) := ⟨by rw [if_neg (by simp)] at ht; exact (Option.some.inj ht).symm⟩
     clear ht
     by_cases hp3 : (i : Int) = 3
     ·have h3b : ((i : Int) == 3) = true := by rw [hp3]; rfl
      clear hp3 hp hv
      gi_wp2_with (first | (gi_at_call 29; refine (CallsIn.mono (callsIn_wide.2 (hgr _)) ?_); rintro e w3 ⟨rfl, hb⟩; have HB3 := Aside0.mk (below_step HB.out hb); have HG3 := Aside0.mk (blk_below HG.out hb); have HM3 := Aside0.mk (HM.out.below hb); clear hb) | (gi_at_call 28; refine (CallsIn.mono (callsIn_wide.2 (hpf _)) ?_); rintro e w' ⟨rfl, hw⟩; obtain rfl := hw.symm; clear hw) | (gi_at_call 30; refine (CallsIn.mono (callsIn_wide.2 (hpc _)) ?_); rintro e w4 ⟨rfl, hb⟩; have hpf4 := PathF.of q1 q2 HB3.out HG3.out hb; have HP := Aside0.mk hpf4; have k51 := hpf4.k51; have q51 := blk_frozen hpf4.K5 1; have g50 := hpf4.g50; have g51 := hpf4.g51; have g52 := hpf4.g52; have f50 := blk_frozen hpf4.G5 0; have f51 := blk_frozen hpf4.G5 1; have f52 := blk_frozen hpf4.G5 2; have l58 := hpf4.l58; clear hb hpf4))
      exact leave_err w _ [] _ (.inl rfl) 4 r1 r2 r3 r4 HE.out HP.out.G5 rfl rfl HP.out.B5
     ·have h3b : ((i : Int) == 3) = false := beq_eq_false_iff_ne.2 hp3
      have h4b : ((i : Int) == 4) = true := by rw [beq_iff_eq]; omega
      clear hp3 hp hv
      gi_wp2_with (first | (gi_at_call 29; refine (CallsIn.mono (callsIn_wide.2 (hgr _)) ?_); rintro e w3 ⟨rfl, hb⟩; have HB3 := Aside0.mk (below_step HB.out hb); have HG3 := Aside0.mk (blk_below HG.out hb); have HM3 := Aside0.mk (HM.out.below hb); clear hb) | (gi_at_call 28; refine (CallsIn.mono (callsIn_wide.2 (hpf _)) ?_); rintro e w' ⟨rfl, hw⟩; obtain rfl := hw.symm; clear hw) | (gi_at_call 30; refine (CallsIn.mono (callsIn_wide.2 (hpc _)) ?_); rintro e w4 ⟨rfl, hb⟩; have hpf4 := PathF.of q1 q2 HB3.out HG3.out hb; have HP := Aside0.mk hpf4; have k51 := hpf4.k51; have q51 := blk_frozen hpf4.K5 1; have g50 := hpf4.g50; have g51 := hpf4.g51; have g52 := hpf4.g52; have f50 := blk_frozen hpf4.G5 0; have f51 := blk_frozen hpf4.G5 1; have f52 := blk_frozen hpf4.G5 2; have l58 := hpf4.l58; clear hb hpf4))
      exact leave_err w _ [] _ (.inl rfl) 4 r1 r2 r3 r4 HE.out HP.out.G5 rfl rfl HP.out.B5
    | true =>
     rw [if_pos rfl] at ht
     have h34 : ((i : Int) == 3) = true ∨ (((i : Int) == 3) = false ∧ ((i : Int) == 4) = true) := by
      by_cases hp3 : (i : Int) = 3
      ·exact .inl (by rw [hp3]; rfl)
      ·exact .inr ⟨beq_eq_false_iff_ne.2 hp3, by rw [beq_iff_eq]; omega⟩
     have htold : ∀ W, Calls Tryd.prog 31 #[.string q2] W fun e w' => e = .returned (.func (.func 42) #[] #[.pointer (some ⟨W.heap.size, 0, none⟩)]) ∧ w' = W.alloc (.cells #[.string q2] 9) := fun W => told_calls q2 W
     have HTT := Aside0.mk ht
     clear ht hp hv
     rcases h34 with h3b | ⟨h3b, h4b⟩
     ·gi_wp2_with (first | (gi_at_call 29; refine (CallsIn.mono (callsIn_wide.2 (hgr _)) ?_); rintro e w3 ⟨rfl, hb⟩; have HB3 := Aside0.mk (below_step HB.out hb); have HG3 := Aside0.mk (blk_below HG.out hb); have HM3 := Aside0.mk (HM.out.below hb); clear hb) | (gi_at_call 28; refine (CallsIn.mono (callsIn_wide.2 (hpf _)) ?_); rintro e w' ⟨rfl, hw⟩; obtain rfl := hw.symm; clear hw) | (gi_at_call 30; refine (CallsIn.mono (callsIn_wide.2 (hpc _)) ?_); rintro e w4 ⟨rfl, hb⟩; have hpf4 := PathF.of q1 q2 HB3.out HG3.out hb; have HP := Aside0.mk hpf4; have k51 := hpf4.k51; have q51 := blk_frozen hpf4.K5 1; have g50 := hpf4.g50; have g51 := hpf4.g51; have g52 := hpf4.g52; have f50 := blk_frozen hpf4.G5 0; have f51 := blk_frozen hpf4.G5 1; have f52 := blk_frozen hpf4.G5 2; have l58 := hpf4.l58; clear hb hpf4) | (gi_at_call 31; refine (CallsIn.mono (callsIn_wide.2 (htold _)) ?_); rintro e w' ⟨rfl, hw⟩; obtain rfl := hw.symm; clear hw))
      have hp4 := HP.out
      have hw3 : w.heap.size < w3.heap.size := hp4.wlt
      have hw34 : w3.heap.size < w4.heap.size := hp4.lt
      obtain ⟨ts, hts⟩ : ∃ ts, toldF q2.size q2.data.toList = ts := ⟨_, rfl⟩
      have hsm : ∀ x ∈ ts, x.2.length ≤ q2.size := fun x hx => by have := (toldF_small q2.size q2.data.toList x (hts ▸ hx)).1; rwa [len_eq] at this
      have htl : ts.length ≤ 1000 := by have := toldF_len q2.size q2.data.toList; rw [hts] at this; omega
      have hit := told_iter (w4.heap.size + 1 + 1) q2 (by omega)
      rw [hts] at hit HTT
      have hI0 : ParseI w w3.heap.size w4.heap.size (w4.heap.size + 1) (w4.heap.size + 1 + 1) (i : Int) q1 q2 (ts.take 0 |>.map toPar) (usedF q2.size (ts.take 0)) ((((w4.alloc (.cells #[.string q2] 9)).setCell ⟨w3.heap.size, 1, none⟩ (.string q1)).alloc (.cells #[.int .i64 0] 3)).alloc (.cells #[.string q2] 9)) := by
       refine ⟨⟨.slice none 0 0, Kd.R_nil _ _ _ _ _, ?_⟩, ?_, ?_, ?_, ?_⟩
       ·exact blk_alloc (blk_alloc (blk_put hp4.K5 1 (.string q1) rfl) _) _
       ·exact blk_alloc (blk_alloc (blk_far (heap_alloc_new w4 (.cells #[.string q2] 9)) (p := ⟨w3.heap.size, 1, none⟩) hp4.ne _) _) _
       ·refine blk_alloc ?_ _
        have := heap_alloc_new ((w4.alloc (.cells #[.string q2] 9)).setCell ⟨w3.heap.size, 1, none⟩ (.string q1)) (.cells #[.int .i64 0] 3)
        rw [World.size_setCell, World.size_alloc] at this
        exact this
       ·exact blk_alloc (blk_alloc (blk_far hp4.G5 (p := ⟨w3.heap.size, 1, none⟩) (by show w.heap.size ≠ w3.heap.size; omega) _) _) _
       ·exact below_alloc (below_alloc (hp4.B5.setCell (p := ⟨w3.heap.size, 1, none⟩) (by show w.heap.size ≤ w3.heap.size; omega) _) _) _
      have hsz : ((((w4.alloc (.cells #[.string q2] 9)).setCell ⟨w3.heap.size, 1, none⟩ (.string q1)).alloc (.cells #[.int .i64 0] 3)).alloc (.cells #[.string q2] 9)).heap.size = w4.heap.size + 1 + 1 + 1 := by simp
      have hbox : ((((w4.alloc (.cells #[.string q2] 9)).setCell ⟨w3.heap.size, 1, none⟩ (.string q1)).alloc (.cells #[.int .i64 0] 3)).alloc (.cells #[.string q2] 9)).heap[w4.heap.size + 1 + 1]? = some (.cells #[.string q2] 9 (0, 0)) := by
       have := heap_alloc_new (((w4.alloc (.cells #[.string q2] 9)).setCell ⟨w3.heap.size, 1, none⟩ (.string q1)).alloc (.cells #[.int .i64 0] 3)) (.cells #[.string q2] 9)
       rw [World.size_alloc, World.size_setCell, World.size_alloc] at this
       exact this
      clear k51 q51 g50 g51 g52 f50 f51 f52 l58
      generalize ((((w4.alloc (.cells #[.string q2] 9)).setCell ⟨w3.heap.size, 1, none⟩ (.string q1)).alloc (.cells #[.int .i64 0] 3)).alloc (.cells #[.string q2] 9)) = W0 at hI0 hsz hbox ⊢
      have HSZ := Aside0.mk hsz
      refine wpIn_rangeB2 (gf := 42) (lb := #[.pointer (some ⟨w4.heap.size + 1 + 1, 0, none⟩)]) rfl (enters_of Tryd.func42 (by kernel_rfl) rfl) hit (by omega)
       (fun W hb => (hb.block _ (by omega)).trans hbox) (fun _ => rfl)
       (fun j W => ParseI w w3.heap.size w4.heap.size (w4.heap.size + 1) (w4.heap.size + 1 + 1) (i : Int) q1 q2 ((ts.take j).map toPar) (usedF q2.size (ts.take j)) W)
       (fun c j W => False)
       (fun j A A' row hs hg hr => hs.grown hg hr (by omega) (by omega) (by omega) (by omega) (by omega))
       (fun c j A A' row hs hg hr => hs)
       hI0
       (fun x a' W => GQ w3.heap.size w4.heap.size (w4.heap.size + 1) W0.heap.size x a' W) (fun x a' => gQ_own (by omega) x a') ?assign ?body ?done ?stop
      case assign =>
       intro l x W K hbW hK
       clear HTT HA HP hit hI0 hbox HSZ
       simp only [encT]
       gi_wp2
       exact hK _ _ (below_alloc (Below.refl _ _) _) (GQ.mk' W.heap.size rfl hbW (heap_alloc_new W _))
      case stop => exact fun _ _ _ _ _ _ h => h.elim
      case body =>
       rintro l j hj a' W hbW hI ⟨u, p, rfl, hp, hkp⟩
       obtain ⟨us, hR, hk6⟩ := hI.R
       obtain ⟨Au, cu, rfl⟩ := Kd.R_slice hR
       have hI' := Aside0.mk hI
       have hR' := Aside0.mk hR
       have hk6' := Aside0.mk hk6
       have hp0 : W.cell? ⟨p, 0, none⟩ = some (.string ⟨ts[j].1.1.toArray⟩) := blk_cell hkp 0
       have hp1 : W.cell? ⟨p, 1, none⟩ = some (.string ⟨ts[j].1.2.toArray⟩) := blk_cell hkp 1
       have hc62 : W.cell? ⟨w3.heap.size, 2, none⟩ = some (.slice Au ((ts.take j).map toPar).length cu) := blk_cell hk6 2
       have hlj : ((ts.take j).map toPar).length ≤ 1000 := by rw [List.length_map, List.length_take]; omega
       have hxl := hsm _ (List.getElem_mem hj)
       have hus : (q2.size : Int) - ts[j].2.toArray.size = usedF q2.size (ts.take (j + 1)) := by rw [usedF_succ _ _ _ hj, List.size_toArray]
       have hpar : (ts.take (j + 1)).map toPar = (ts.take j).map toPar ++ [(⟨⟨ts[j].1.1.toArray⟩, ⟨ts[j].1.2.toArray⟩⟩ : S49)] := by rw [List.take_succ_eq_append_getElem hj, List.map_append]; rfl
       have HUS := Aside0.mk hus
       have HPAR := Aside0.mk hpar
       have HBW : Aside0 (w4.heap.size + 1 + 1 < W.heap.size) := ⟨by have := HSZ.out; omega⟩
       have hxl2 : ts[j].2.toArray.size ≤ q2.size := by rw [List.size_toArray]; exact hxl
       clear hI hR hk6 hkp hus hpar hbW HTT HA HP hit hI0 hbox HSZ hxl
       generalize (ts.take j).map toPar = row at hI' hR' hk6' hc62 hlj HPAR
       generalize ts[j].2.toArray = rst at HUS hxl2
       generalize ts[j].1.1.toArray = xn at hp0 HPAR
       generalize ts[j].1.2.toArray = xv at hp1 HPAR
       unfold litQ
       gi_wp2_with (gi_at_builtin; refine R_appendIn k49 (w0 := w) w.heap.size rfl (.tmp 63) (.tmp 65) 25 49 (.agg #[(.string ⟨#[]⟩), (.string ⟨#[]⟩)]) 32 rfl Tryd.underlying25 info49 rfl (by decide) (by omega) (.slice Au row.length cu) row ⟨⟨xn⟩, ⟨xv⟩⟩ [.string ⟨xn⟩, .string ⟨xv⟩] (fun k => k ≠ w4.heap.size + 1 + 1) (fun _ => False) rfl rfl ?aP (fun _ hk => hk.elim) ?aF ?aO ?aB ?aS ?aL ?_; (case aP => exact k49_mkM _ _ _ _); (case aF => exact fun k hk => by have := HBW.out; omega); (case aO => exact hR'.out); (case aB => exact hI'.out.Bel); (case aS => exact hI'.out.Bel.size); (case aL => omega); intro v1 W1 ho hb hgr hat; have hk61 := blk_grown hk6'.out hgr (fun e => ((Kd.R_types hR'.out hk6'.out (by decide)).1 _ e.symm).2 rfl); have hk81 := blk_grown hI'.out.B8 hgr (fun e => ((Kd.R_types hR'.out hI'.out.B8 (by decide)).1 _ e.symm).2 rfl); have hk101 := blk_grown hI'.out.B10 hgr (fun e => ((Kd.R_types hR'.out hI'.out.B10 (by decide)).1 _ e.symm).2 rfl); obtain ⟨A1, c1, rfl⟩ := Kd.R_slice ho; have m62 : W1.cell? ⟨w3.heap.size, 2, none⟩ = some (.slice Au row.length cu) := blk_cell hk61 2; have m62f := blk_frozen hk61 2; have hk82 : (W1.setCell ⟨w3.heap.size, 2, none⟩ (.slice A1 (row.length + 1) c1)).heap[w4.heap.size]? = some (.cells #[.string q2] 9 (0, 0)) := blk_far hk81 (p := ⟨w3.heap.size, 2, none⟩) (by show w4.heap.size ≠ w3.heap.size; omega) _; have m8 : (W1.setCell ⟨w3.heap.size, 2, none⟩ (.slice A1 (row.length + 1) c1)).cell? ⟨w4.heap.size, 0, none⟩ = some (.string q2) := blk_cell hk82 0; have hk102 : (W1.setCell ⟨w3.heap.size, 2, none⟩ (.slice A1 (row.length + 1) c1)).heap[w4.heap.size + 1]? = some (.cells #[.int .i64 _] 3 (0, 0)) := blk_far hk101 (p := ⟨w3.heap.size, 2, none⟩) (by show w4.heap.size + 1 ≠ w3.heap.size; omega) _; have m10 := blk_cell hk102 0; have m10f := blk_frozen hk102 0; simp only [List.getElem?_toArray, List.getElem?_cons_zero] at m10; have HO := Aside0.mk ho; have HB1 := Aside0.mk hb; have HGR := Aside0.mk hgr; clear hk61 hk81 hk101 hk82 hk102 ho hb hgr hat)
       have ho := HO.out
       rw [show (row ++ [(⟨⟨xn⟩, ⟨xv⟩⟩ : S49)]).length = row.length + 1 from by simp] at ho
       obtain ⟨s1, s2, s3⟩ := ParseI.step (b := W0.heap.size) hI'.out ((q2.size : Int) - rst.size) hR'.out hk6'.out ho HB1.out HGR.out HBW.out (by omega) (by omega) (by omega) (by omega) (by omega) (by omega) (by omega)
       exact ⟨s1, s2, by show ParseI w w3.heap.size w4.heap.size (w4.heap.size + 1) (w4.heap.size + 1 + 1) (i : Int) q1 q2 ((ts.take (j + 1)).map toPar) (usedF q2.size (ts.take (j + 1))) _; rw [HPAR.out, ← HUS.out]; exact s3⟩
      case done =>
       intro D W hD hI hk
       have hI2 : ParseI w w3.heap.size w4.heap.size (w4.heap.size + 1) (w4.heap.size + 1 + 1) (i : Int) q1 q2 (ts.map toPar) (usedF q2.size ts) W := by have := hI; rwa [List.take_length] at this
       obtain ⟨us6, hR, hk6⟩ := hI2.R
       obtain ⟨Au, cu, rfl⟩ := Kd.R_slice hR
       have hI' := Aside0.mk hI2
       have hR' := Aside0.mk hR
       have hk6' := Aside0.mk hk6
       have HM' : Aside0 (MarksP w [markD D] W) := ⟨.inr ⟨D, rfl, by omega, hk⟩⟩
       have hc10 : W.cell? ⟨w4.heap.size + 1, 0, none⟩ = some (.int .i64 (usedF q2.size ts)) := blk_cell hI2.B10 0
       have hc8 : W.cell? ⟨w4.heap.size, 0, none⟩ = some (.string q2) := blk_cell hI2.B8 0
       have hz0 : W.cell? ⟨w.heap.size, 0, none⟩ = some (.int .u8 0) := blk_cell hI2.G 0
       have hz1 : W.cell? ⟨w.heap.size, 1, none⟩ = some (.string ⟨#[]⟩) := blk_cell hI2.G 1
       have hz2 : W.cell? ⟨w.heap.size, 2, none⟩ = some (.slice none 0 0) := blk_cell hI2.G 2
       have hy0 := blk_frozen hI2.G 0
       have hy1 := blk_frozen hI2.G 1
       have hy2 := blk_frozen hI2.G 2
       have hx0 : W.cell? ⟨w3.heap.size, 0, none⟩ = some (.int .u8 (i : Int)) := blk_cell hk6 0
       have hx1 : W.cell? ⟨w3.heap.size, 1, none⟩ = some (.string q1) := blk_cell hk6 1
       have hx2 : W.cell? ⟨w3.heap.size, 2, none⟩ = some (.slice Au (ts.map toPar).length cu) := blk_cell hk6 2
       have hsf : ∀ W, Calls Tryd.prog 32 #[.string q2, .string ⟨#[32]⟩] W fun e w' => e = .returned (.bool (Lib.hasSuffix q2.data.toList [32])) ∧ w' = W := fun W => Tryd.strings_HasSuffix q2 ⟨#[32]⟩ W (by omega)
       have hmcall : ∀ m, cmd_May.f 1 (i : Int) q1 (ts.map toPar) = some m → ∀ W2, Below W.heap.size W W2 → Calls Tryd.prog 17 #[.agg #[.int .u8 (i : Int), .string q1, .slice Au (ts.map toPar).length cu]] W2 fun e w' => e = .returned (.bool m) ∧ Below W2.heap.size W2 w' := fun m hm W2 hb =>
        cmd_May.calls 1 (i : Int) q1 Au cu (ts.map toPar) m W2 (Kd.C_below (Kd.R_reads' hR).2.2 hb) (Kd.R_reads' hR).2.1 hm
       have ht := HTT.out
       clear hI hI2 hR hk6 hk hit hI0 hbox HSZ hsm htl HTT HP hts
       generalize usedF q2.size ts = us at hc10 ht hI'
       generalize ts.map toPar = row at hx2 ht hI' hR' hk6' hmcall
       generalize Lib.hasSuffix q2.data.toList [32] = sb at hsf ht
       cases hub : (us != (q2.size : Int)) with
       | true =>
        have HE : Aside0 ((r1, r2, r3, r4) = errP) := ⟨by rw [hub] at ht; simpa using ht.symm⟩
        clear ht hmcall
        gi_wp2
        exact leave_err w _ _ W HM'.out 4 r1 r2 r3 r4 HE.out hI'.out.G rfl rfl hI'.out.Bel
       | false =>
        cases sb with
        | true =>
         have HE : Aside0 ((r1, r2, r3, r4) = errP) := ⟨by simpa using ht.symm⟩
         clear ht hmcall
         gi_wp2_with (gi_at_call 32; refine (CallsIn.mono (callsIn_wide.2 (hsf _)) ?_); rintro e w' ⟨rfl, hw⟩; obtain rfl := hw.symm; clear hw)
         exact leave_err w _ _ W HM'.out 4 r1 r2 r3 r4 HE.out hI'.out.G rfl rfl hI'.out.Bel
        | false =>
         rw [hub] at ht
         simp only [Bool.or_self, Bool.false_eq_true, if_false] at ht
         obtain ⟨m, hmay, ht⟩ := Option.bind_eq_some_iff.1 ht
         have hmc := hmcall m hmay
         have HT := Aside0.mk (Option.some.inj ht)
         clear ht hmcall hmay
         cases m with
         | false =>
          gi_wp2_with (first | (gi_at_call 32; refine (CallsIn.mono (callsIn_wide.2 (hsf _)) ?_); rintro e w' ⟨rfl, hw⟩; obtain rfl := hw.symm; clear hw) | (gi_at_call 17; refine (CallsIn.mono (callsIn_wide.2 (hmc _ (Below.refl _ _))) ?_); rintro e w5 ⟨rfl, hb⟩; have hg5 := blk_below hI'.out.G hb; have hk5 := blk_below hk6'.out hb; have HG5 := Aside0.mk hg5; have HB5 := Aside0.mk (below_step hI'.out.Bel hb); have HM5 := Aside0.mk (HM'.out.below hb); have HR5 := Aside0.mk (Kd.R_below hR'.out hb); have hc0 := blk_cell hk5 0; have hc1 := blk_cell hk5 1; have hc2 := blk_cell hk5 2; have hd0 := blk_cell hg5 0; have hd1 := blk_cell hg5 1; have hd2 := blk_cell hg5 2; have hf0 := blk_frozen hg5 0; have hf1 := blk_frozen hg5 1; have hf2 := blk_frozen hg5 2; simp only [List.getElem?_toArray, List.getElem?_cons_zero, List.getElem?_cons_succ] at hc0 hc1 hc2 hd0 hd1 hd2; clear hb hg5 hk5))
          exact HK.out _ _ ⟨[markD D], FrameP.mk' _ _ rfl, HB5.out, HG5.out, HM5.out, HA.out [markD D] (by have := HT.out; simpa using this.symm)⟩
         | true =>
          gi_wp2_with (first | (gi_at_call 32; refine (CallsIn.mono (callsIn_wide.2 (hsf _)) ?_); rintro e w' ⟨rfl, hw⟩; obtain rfl := hw.symm; clear hw) | (gi_at_call 17; refine (CallsIn.mono (callsIn_wide.2 (hmc _ (Below.refl _ _))) ?_); rintro e w5 ⟨rfl, hb⟩; have hg5 := blk_below hI'.out.G hb; have hk5 := blk_below hk6'.out hb; have HG5 := Aside0.mk hg5; have HB5 := Aside0.mk (below_step hI'.out.Bel hb); have HM5 := Aside0.mk (HM'.out.below hb); have HR5 := Aside0.mk (Kd.R_below hR'.out hb); have hc0 := blk_cell hk5 0; have hc1 := blk_cell hk5 1; have hc2 := blk_cell hk5 2; have hd0 := blk_cell hg5 0; have hd1 := blk_cell hg5 1; have hd2 := blk_cell hg5 2; have hf0 := blk_frozen hg5 0; have hf1 := blk_frozen hg5 1; have hf2 := blk_frozen hg5 2; simp only [List.getElem?_toArray, List.getElem?_cons_zero, List.getElem?_cons_succ] at hc0 hc1 hc2 hd0 hd1 hd2; clear hb hg5 hk5))
          have h := HT.out
          simp only [if_true] at h
          cases h
          exact leave_ok w _ [markD D] w5 HM5.out _ _ _ _ 0 (fun k => k ≠ w4.heap.size + 1 + 1) HG5.out rfl rfl HR5.out HB5.out
     ·gi_wp2_with (first | (gi_at_call 29; refine (CallsIn.mono (callsIn_wide.2 (hgr _)) ?_); rintro e w3 ⟨rfl, hb⟩; have HB3 := Aside0.mk (below_step HB.out hb); have HG3 := Aside0.mk (blk_below HG.out hb); have HM3 := Aside0.mk (HM.out.below hb); clear hb) | (gi_at_call 28; refine (CallsIn.mono (callsIn_wide.2 (hpf _)) ?_); rintro e w' ⟨rfl, hw⟩; obtain rfl := hw.symm; clear hw) | (gi_at_call 30; refine (CallsIn.mono (callsIn_wide.2 (hpc _)) ?_); rintro e w4 ⟨rfl, hb⟩; have hpf4 := PathF.of q1 q2 HB3.out HG3.out hb; have HP := Aside0.mk hpf4; have k51 := hpf4.k51; have q51 := blk_frozen hpf4.K5 1; have g50 := hpf4.g50; have g51 := hpf4.g51; have g52 := hpf4.g52; have f50 := blk_frozen hpf4.G5 0; have f51 := blk_frozen hpf4.G5 1; have f52 := blk_frozen hpf4.G5 2; have l58 := hpf4.l58; clear hb hpf4) | (gi_at_call 31; refine (CallsIn.mono (callsIn_wide.2 (htold _)) ?_); rintro e w' ⟨rfl, hw⟩; obtain rfl := hw.symm; clear hw))
      have hp4 := HP.out
      have hw3 : w.heap.size < w3.heap.size := hp4.wlt
      have hw34 : w3.heap.size < w4.heap.size := hp4.lt
      obtain ⟨ts, hts⟩ : ∃ ts, toldF q2.size q2.data.toList = ts := ⟨_, rfl⟩
      have hsm : ∀ x ∈ ts, x.2.length ≤ q2.size := fun x hx => by have := (toldF_small q2.size q2.data.toList x (hts ▸ hx)).1; rwa [len_eq] at this
      have htl : ts.length ≤ 1000 := by have := toldF_len q2.size q2.data.toList; rw [hts] at this; omega
      have hit := told_iter (w4.heap.size + 1 + 1) q2 (by omega)
      rw [hts] at hit HTT
      have hI0 : ParseI w w3.heap.size w4.heap.size (w4.heap.size + 1) (w4.heap.size + 1 + 1) (i : Int) q1 q2 (ts.take 0 |>.map toPar) (usedF q2.size (ts.take 0)) ((((w4.alloc (.cells #[.string q2] 9)).setCell ⟨w3.heap.size, 1, none⟩ (.string q1)).alloc (.cells #[.int .i64 0] 3)).alloc (.cells #[.string q2] 9)) := by
       refine ⟨⟨.slice none 0 0, Kd.R_nil _ _ _ _ _, ?_⟩, ?_, ?_, ?_, ?_⟩
       ·exact blk_alloc (blk_alloc (blk_put hp4.K5 1 (.string q1) rfl) _) _
       ·exact blk_alloc (blk_alloc (blk_far (heap_alloc_new w4 (.cells #[.string q2] 9)) (p := ⟨w3.heap.size, 1, none⟩) hp4.ne _) _) _
       ·refine blk_alloc ?_ _
        have := heap_alloc_new ((w4.alloc (.cells #[.string q2] 9)).setCell ⟨w3.heap.size, 1, none⟩ (.string q1)) (.cells #[.int .i64 0] 3)
        rw [World.size_setCell, World.size_alloc] at this
        exact this
       ·exact blk_alloc (blk_alloc (blk_far hp4.G5 (p := ⟨w3.heap.size, 1, none⟩) (by show w.heap.size ≠ w3.heap.size; omega) _) _) _
       ·exact below_alloc (below_alloc (hp4.B5.setCell (p := ⟨w3.heap.size, 1, none⟩) (by show w.heap.size ≤ w3.heap.size; omega) _) _) _
      have hsz : ((((w4.alloc (.cells #[.string q2] 9)).setCell ⟨w3.heap.size, 1, none⟩ (.string q1)).alloc (.cells #[.int .i64 0] 3)).alloc (.cells #[.string q2] 9)).heap.size = w4.heap.size + 1 + 1 + 1 := by simp
      have hbox : ((((w4.alloc (.cells #[.string q2] 9)).setCell ⟨w3.heap.size, 1, none⟩ (.string q1)).alloc (.cells #[.int .i64 0] 3)).alloc (.cells #[.string q2] 9)).heap[w4.heap.size + 1 + 1]? = some (.cells #[.string q2] 9 (0, 0)) := by
       have := heap_alloc_new (((w4.alloc (.cells #[.string q2] 9)).setCell ⟨w3.heap.size, 1, none⟩ (.string q1)).alloc (.cells #[.int .i64 0] 3)) (.cells #[.string q2] 9)
       rw [World.size_alloc, World.size_setCell, World.size_alloc] at this
       exact this
      clear k51 q51 g50 g51 g52 f50 f51 f52 l58
      generalize ((((w4.alloc (.cells #[.string q2] 9)).setCell ⟨w3.heap.size, 1, none⟩ (.string q1)).alloc (.cells #[.int .i64 0] 3)).alloc (.cells #[.string q2] 9)) = W0 at hI0 hsz hbox ⊢
      have HSZ := Aside0.mk hsz
      refine wpIn_rangeB2 (gf := 42) (lb := #[.pointer (some ⟨w4.heap.size + 1 + 1, 0, none⟩)]) rfl (enters_of Tryd.func42 (by kernel_rfl) rfl) hit (by omega)
       (fun W hb => (hb.block _ (by omega)).trans hbox) (fun _ => rfl)
       (fun j W => ParseI w w3.heap.size w4.heap.size (w4.heap.size + 1) (w4.heap.size + 1 + 1) (i : Int) q1 q2 ((ts.take j).map toPar) (usedF q2.size (ts.take j)) W)
       (fun c j W => False)
       (fun j A A' row hs hg hr => hs.grown hg hr (by omega) (by omega) (by omega) (by omega) (by omega))
       (fun c j A A' row hs hg hr => hs)
       hI0
       (fun x a' W => GQ w3.heap.size w4.heap.size (w4.heap.size + 1) W0.heap.size x a' W) (fun x a' => gQ_own (by omega) x a') ?assign ?body ?done ?stop
      case assign =>
       intro l x W K hbW hK
       clear HTT HA HP hit hI0 hbox HSZ
       simp only [encT]
       gi_wp2
       exact hK _ _ (below_alloc (Below.refl _ _) _) (GQ.mk' W.heap.size rfl hbW (heap_alloc_new W _))
      case stop => exact fun _ _ _ _ _ _ h => h.elim
      case body =>
       rintro l j hj a' W hbW hI ⟨u, p, rfl, hp, hkp⟩
       obtain ⟨us, hR, hk6⟩ := hI.R
       obtain ⟨Au, cu, rfl⟩ := Kd.R_slice hR
       have hI' := Aside0.mk hI
       have hR' := Aside0.mk hR
       have hk6' := Aside0.mk hk6
       have hp0 : W.cell? ⟨p, 0, none⟩ = some (.string ⟨ts[j].1.1.toArray⟩) := blk_cell hkp 0
       have hp1 : W.cell? ⟨p, 1, none⟩ = some (.string ⟨ts[j].1.2.toArray⟩) := blk_cell hkp 1
       have hc62 : W.cell? ⟨w3.heap.size, 2, none⟩ = some (.slice Au ((ts.take j).map toPar).length cu) := blk_cell hk6 2
       have hlj : ((ts.take j).map toPar).length ≤ 1000 := by rw [List.length_map, List.length_take]; omega
       have hxl := hsm _ (List.getElem_mem hj)
       have hus : (q2.size : Int) - ts[j].2.toArray.size = usedF q2.size (ts.take (j + 1)) := by rw [usedF_succ _ _ _ hj, List.size_toArray]
       have hpar : (ts.take (j + 1)).map toPar = (ts.take j).map toPar ++ [(⟨⟨ts[j].1.1.toArray⟩, ⟨ts[j].1.2.toArray⟩⟩ : S49)] := by rw [List.take_succ_eq_append_getElem hj, List.map_append]; rfl
       have HUS := Aside0.mk hus
       have HPAR := Aside0.mk hpar
       have HBW : Aside0 (w4.heap.size + 1 + 1 < W.heap.size) := ⟨by have := HSZ.out; omega⟩
       have hxl2 : ts[j].2.toArray.size ≤ q2.size := by rw [List.size_toArray]; exact hxl
       clear hI hR hk6 hkp hus hpar hbW HTT HA HP hit hI0 hbox HSZ hxl
       generalize (ts.take j).map toPar = row at hI' hR' hk6' hc62 hlj HPAR
       generalize ts[j].2.toArray = rst at HUS hxl2
       generalize ts[j].1.1.toArray = xn at hp0 HPAR
       generalize ts[j].1.2.toArray = xv at hp1 HPAR
       unfold litQ
       gi_wp2_with (gi_at_builtin; refine R_appendIn k49 (w0 := w) w.heap.size rfl (.tmp 63) (.tmp 65) 25 49 (.agg #[(.string ⟨#[]⟩), (.string ⟨#[]⟩)]) 32 rfl Tryd.underlying25 info49 rfl (by decide) (by omega) (.slice Au row.length cu) row ⟨⟨xn⟩, ⟨xv⟩⟩ [.string ⟨xn⟩, .string ⟨xv⟩] (fun k => k ≠ w4.heap.size + 1 + 1) (fun _ => False) rfl rfl ?aP (fun _ hk => hk.elim) ?aF ?aO ?aB ?aS ?aL ?_; (case aP => exact k49_mkM _ _ _ _); (case aF => exact fun k hk => by have := HBW.out; omega); (case aO => exact hR'.out); (case aB => exact hI'.out.Bel); (case aS => exact hI'.out.Bel.size); (case aL => omega); intro v1 W1 ho hb hgr hat; have hk61 := blk_grown hk6'.out hgr (fun e => ((Kd.R_types hR'.out hk6'.out (by decide)).1 _ e.symm).2 rfl); have hk81 := blk_grown hI'.out.B8 hgr (fun e => ((Kd.R_types hR'.out hI'.out.B8 (by decide)).1 _ e.symm).2 rfl); have hk101 := blk_grown hI'.out.B10 hgr (fun e => ((Kd.R_types hR'.out hI'.out.B10 (by decide)).1 _ e.symm).2 rfl); obtain ⟨A1, c1, rfl⟩ := Kd.R_slice ho; have m62 : W1.cell? ⟨w3.heap.size, 2, none⟩ = some (.slice Au row.length cu) := blk_cell hk61 2; have m62f := blk_frozen hk61 2; have hk82 : (W1.setCell ⟨w3.heap.size, 2, none⟩ (.slice A1 (row.length + 1) c1)).heap[w4.heap.size]? = some (.cells #[.string q2] 9 (0, 0)) := blk_far hk81 (p := ⟨w3.heap.size, 2, none⟩) (by show w4.heap.size ≠ w3.heap.size; omega) _; have m8 : (W1.setCell ⟨w3.heap.size, 2, none⟩ (.slice A1 (row.length + 1) c1)).cell? ⟨w4.heap.size, 0, none⟩ = some (.string q2) := blk_cell hk82 0; have hk102 : (W1.setCell ⟨w3.heap.size, 2, none⟩ (.slice A1 (row.length + 1) c1)).heap[w4.heap.size + 1]? = some (.cells #[.int .i64 _] 3 (0, 0)) := blk_far hk101 (p := ⟨w3.heap.size, 2, none⟩) (by show w4.heap.size + 1 ≠ w3.heap.size; omega) _; have m10 := blk_cell hk102 0; have m10f := blk_frozen hk102 0; simp only [List.getElem?_toArray, List.getElem?_cons_zero] at m10; have HO := Aside0.mk ho; have HB1 := Aside0.mk hb; have HGR := Aside0.mk hgr; clear hk61 hk81 hk101 hk82 hk102 ho hb hgr hat)
       have ho := HO.out
       rw [show (row ++ [(⟨⟨xn⟩, ⟨xv⟩⟩ : S49)]).length = row.length + 1 from by simp] at ho
       obtain ⟨s1, s2, s3⟩ := ParseI.step (b := W0.heap.size) hI'.out ((q2.size : Int) - rst.size) hR'.out hk6'.out ho HB1.out HGR.out HBW.out (by omega) (by omega) (by omega) (by omega) (by omega) (by omega) (by omega)
       exact ⟨s1, s2, by show ParseI w w3.heap.size w4.heap.size (w4.heap.size + 1) (w4.heap.size + 1 + 1) (i : Int) q1 q2 ((ts.take (j + 1)).map toPar) (usedF q2.size (ts.take (j + 1))) _; rw [HPAR.out, ← HUS.out]; exact s3⟩
      case done =>
       intro D W hD hI hk
       have hI2 : ParseI w w3.heap.size w4.heap.size (w4.heap.size + 1) (w4.heap.size + 1 + 1) (i : Int) q1 q2 (ts.map toPar) (usedF q2.size ts) W := by have := hI; rwa [List.take_length] at this
       obtain ⟨us6, hR, hk6⟩ := hI2.R
       obtain ⟨Au, cu, rfl⟩ := Kd.R_slice hR
       have hI' := Aside0.mk hI2
       have hR' := Aside0.mk hR
       have hk6' := Aside0.mk hk6
       have HM' : Aside0 (MarksP w [markD D] W) := ⟨.inr ⟨D, rfl, by omega, hk⟩⟩
       have hc10 : W.cell? ⟨w4.heap.size + 1, 0, none⟩ = some (.int .i64 (usedF q2.size ts)) := blk_cell hI2.B10 0
       have hc8 : W.cell? ⟨w4.heap.size, 0, none⟩ = some (.string q2) := blk_cell hI2.B8 0
       have hz0 : W.cell? ⟨w.heap.size, 0, none⟩ = some (.int .u8 0) := blk_cell hI2.G 0
       have hz1 : W.cell? ⟨w.heap.size, 1, none⟩ = some (.string ⟨#[]⟩) := blk_cell hI2.G 1
       have hz2 : W.cell? ⟨w.heap.size, 2, none⟩ = some (.slice none 0 0) := blk_cell hI2.G 2
       have hy0 := blk_frozen hI2.G 0
       have hy1 := blk_frozen hI2.G 1
       have hy2 := blk_frozen hI2.G 2
       have hx0 : W.cell? ⟨w3.heap.size, 0, none⟩ = some (.int .u8 (i : Int)) := blk_cell hk6 0
       have hx1 : W.cell? ⟨w3.heap.size, 1, none⟩ = some (.string q1) := blk_cell hk6 1
       have hx2 : W.cell? ⟨w3.heap.size, 2, none⟩ = some (.slice Au (ts.map toPar).length cu) := blk_cell hk6 2
       have hsf : ∀ W, Calls Tryd.prog 32 #[.string q2, .string ⟨#[32]⟩] W fun e w' => e = .returned (.bool (Lib.hasSuffix q2.data.toList [32])) ∧ w' = W := fun W => Tryd.strings_HasSuffix q2 ⟨#[32]⟩ W (by omega)
       have hmcall : ∀ m, cmd_May.f 1 (i : Int) q1 (ts.map toPar) = some m → ∀ W2, Below W.heap.size W W2 → Calls Tryd.prog 17 #[.agg #[.int .u8 (i : Int), .string q1, .slice Au (ts.map toPar).length cu]] W2 fun e w' => e = .returned (.bool m) ∧ Below W2.heap.size W2 w' := fun m hm W2 hb =>
        cmd_May.calls 1 (i : Int) q1 Au cu (ts.map toPar) m W2 (Kd.C_below (Kd.R_reads' hR).2.2 hb) (Kd.R_reads' hR).2.1 hm
       have ht := HTT.out
       clear hI hI2 hR hk6 hk hit hI0 hbox HSZ hsm htl HTT HP hts
       generalize usedF q2.size ts = us at hc10 ht hI'
       generalize ts.map toPar = row at hx2 ht hI' hR' hk6' hmcall
       generalize Lib.hasSuffix q2.data.toList [32] = sb at hsf ht
       cases hub : (us != (q2.size : Int)) with
       | true =>
        have HE : Aside0 ((r1, r2, r3, r4) = errP) := ⟨by rw [hub] at ht; simpa using ht.symm⟩
        clear ht hmcall
        gi_wp2
        exact leave_err w _ _ W HM'.out 4 r1 r2 r3 r4 HE.out hI'.out.G rfl rfl hI'.out.Bel
       | false =>
        cases sb with
        | true =>
         have HE : Aside0 ((r1, r2, r3, r4) = errP) := ⟨by simpa using ht.symm⟩
         clear ht hmcall
         gi_wp2_with (gi_at_call 32; refine (CallsIn.mono (callsIn_wide.2 (hsf _)) ?_); rintro e w' ⟨rfl, hw⟩; obtain rfl := hw.symm; clear hw)
         exact leave_err w _ _ W HM'.out 4 r1 r2 r3 r4 HE.out hI'.out.G rfl rfl hI'.out.Bel
        | false =>
         rw [hub] at ht
         simp only [Bool.or_self, Bool.false_eq_true, if_false] at ht
         obtain ⟨m, hmay, ht⟩ := Option.bind_eq_some_iff.1 ht
         have hmc := hmcall m hmay
         have HT := Aside0.mk (Option.some.inj ht)
         clear ht hmcall hmay
         cases m with
         | false =>
          gi_wp2_with (first | (gi_at_call 32; refine (CallsIn.mono (callsIn_wide.2 (hsf _)) ?_); rintro e w' ⟨rfl, hw⟩; obtain rfl := hw.symm; clear hw) | (gi_at_call 17; refine (CallsIn.mono (callsIn_wide.2 (hmc _ (Below.refl _ _))) ?_); rintro e w5 ⟨rfl, hb⟩; have hg5 := blk_below hI'.out.G hb; have hk5 := blk_below hk6'.out hb; have HG5 := Aside0.mk hg5; have HB5 := Aside0.mk (below_step hI'.out.Bel hb); have HM5 := Aside0.mk (HM'.out.below hb); have HR5 := Aside0.mk (Kd.R_below hR'.out hb); have hc0 := blk_cell hk5 0; have hc1 := blk_cell hk5 1; have hc2 := blk_cell hk5 2; have hd0 := blk_cell hg5 0; have hd1 := blk_cell hg5 1; have hd2 := blk_cell hg5 2; have hf0 := blk_frozen hg5 0; have hf1 := blk_frozen hg5 1; have hf2 := blk_frozen hg5 2; simp only [List.getElem?_toArray, List.getElem?_cons_zero, List.getElem?_cons_succ] at hc0 hc1 hc2 hd0 hd1 hd2; clear hb hg5 hk5))
          exact HK.out _ _ ⟨[markD D], FrameP.mk' _ _ rfl, HB5.out, HG5.out, HM5.out, HA.out [markD D] (by have := HT.out; simpa using this.symm)⟩
         | true =>
          gi_wp2_with (first | (gi_at_call 32; refine (CallsIn.mono (callsIn_wide.2 (hsf _)) ?_); rintro e w' ⟨rfl, hw⟩; obtain rfl := hw.symm; clear hw) | (gi_at_call 17; refine (CallsIn.mono (callsIn_wide.2 (hmc _ (Below.refl _ _))) ?_); rintro e w5 ⟨rfl, hb⟩; have hg5 := blk_below hI'.out.G hb; have hk5 := blk_below hk6'.out hb; have HG5 := Aside0.mk hg5; have HB5 := Aside0.mk (below_step hI'.out.Bel hb); have HM5 := Aside0.mk (HM'.out.below hb); have HR5 := Aside0.mk (Kd.R_below hR'.out hb); have hc0 := blk_cell hk5 0; have hc1 := blk_cell hk5 1; have hc2 := blk_cell hk5 2; have hd0 := blk_cell hg5 0; have hd1 := blk_cell hg5 1; have hd2 := blk_cell hg5 2; have hf0 := blk_frozen hg5 0; have hf1 := blk_frozen hg5 1; have hf2 := blk_frozen hg5 2; simp only [List.getElem?_toArray, List.getElem?_cons_zero, List.getElem?_cons_succ] at hc0 hc1 hc2 hd0 hd1 hd2; clear hb hg5 hk5))
          have h := HT.out
          simp only [if_true] at h
          cases h
          exact leave_ok w _ [markD D] w5 HM5.out _ _ _ _ 0 (fun k => k ≠ w4.heap.size + 1 + 1) HG5.out rfl rfl HR5.out HB5.out
   ·have h3b : ((i : Int) == 3) = false := beq_eq_false_iff_ne.2 (fun e => hp (.inl e))
    have h4b : ((i : Int) == 4) = false := beq_eq_false_iff_ne.2 (fun e => hp (.inr e))
    have ht := HTRY.out
    unfold tryV at ht
    rw [if_neg hp] at ht
    obtain ⟨m, hmay, ht⟩ := Option.bind_eq_some_iff.1 ht
    have hmc : ∀ W, Calls Tryd.prog 17 #[.agg #[.int .u8 (i : Int), .string arg, .slice none 0 0]] W fun e w' => e = .returned (.bool m) ∧ Below W.heap.size W w' := fun W => cmd_May.calls 1 (i : Int) arg none 0 [] m W (Kd.C_nil _ _) (Nat.le_refl _) hmay
    have HT := Aside0.mk (Option.some.inj ht)
    clear ht hmay HTRY hp hv
    cases m with
    | false =>
     gi_wp2_with (first | (gi_at_call 29; refine (CallsIn.mono (callsIn_wide.2 (hgr _)) ?_); rintro e w3 ⟨rfl, hb⟩; have HB3 := Aside0.mk (below_step HB.out hb); have HG3 := Aside0.mk (blk_below HG.out hb); have HM3 := Aside0.mk (HM.out.below hb); clear hb) | (gi_at_call 28; refine (CallsIn.mono (callsIn_wide.2 (hpf _)) ?_); rintro e w' ⟨rfl, hw⟩; obtain rfl := hw.symm; clear hw) | (gi_at_call 17; refine (CallsIn.mono (callsIn_wide.2 (hmc _)) ?_); rintro e w4 ⟨rfl, hb⟩; have hal : Below w3.heap.size w3 w4 := below_step (below_alloc (Below.refl _ _) _) hb; have hk4 := blk_below (heap_alloc_new w3 _) hb; have HB4 := Aside0.mk (below_step HB3.out hal); have hg4 := blk_below HG3.out hal; have HG4 := Aside0.mk hg4; have HM4 := Aside0.mk (HM3.out.below hal); have hc0 := blk_cell hk4 0; have hc1 := blk_cell hk4 1; have hc2 := blk_cell hk4 2; have hd0 := blk_cell hg4 0; have hd1 := blk_cell hg4 1; have hd2 := blk_cell hg4 2; have hf0 := blk_frozen hg4 0; have hf1 := blk_frozen hg4 1; have hf2 := blk_frozen hg4 2; simp only [List.getElem?_toArray, List.getElem?_cons_zero, List.getElem?_cons_succ] at hc0 hc1 hc2 hd0 hd1 hd2; clear hb hal hk4 hg4))
     exact HK.out _ _ ⟨[], FrameP.mk' _ _ rfl, HB4.out, HG4.out, HM4.out, HA.out [] (by have := HT.out; simpa using this.symm)⟩
    | true =>
     gi_wp2_with (first | (gi_at_call 29; refine (CallsIn.mono (callsIn_wide.2 (hgr _)) ?_); rintro e w3 ⟨rfl, hb⟩; have HB3 := Aside0.mk (below_step HB.out hb); have HG3 := Aside0.mk (blk_below HG.out hb); have HM3 := Aside0.mk (HM.out.below hb); clear hb) | (gi_at_call 28; refine (CallsIn.mono (callsIn_wide.2 (hpf _)) ?_); rintro e w' ⟨rfl, hw⟩; obtain rfl := hw.symm; clear hw) | (gi_at_call 17; refine (CallsIn.mono (callsIn_wide.2 (hmc _)) ?_); rintro e w4 ⟨rfl, hb⟩; have hal : Below w3.heap.size w3 w4 := below_step (below_alloc (Below.refl _ _) _) hb; have hk4 := blk_below (heap_alloc_new w3 _) hb; have HB4 := Aside0.mk (below_step HB3.out hal); have hg4 := blk_below HG3.out hal; have HG4 := Aside0.mk hg4; have HM4 := Aside0.mk (HM3.out.below hal); have hc0 := blk_cell hk4 0; have hc1 := blk_cell hk4 1; have hc2 := blk_cell hk4 2; have hd0 := blk_cell hg4 0; have hd1 := blk_cell hg4 1; have hd2 := blk_cell hg4 2; have hf0 := blk_frozen hg4 0; have hf1 := blk_frozen hg4 1; have hf2 := blk_frozen hg4 2; simp only [List.getElem?_toArray, List.getElem?_cons_zero, List.getElem?_cons_succ] at hc0 hc1 hc2 hd0 hd1 hd2; clear hb hal hk4 hg4))
     have h := HT.out
     simp only [if_true] at h
     cases h
     exact leave_ok w _ [] w4 HM4.out _ _ _ [] 0 (fun _ => True) HG4.out rfl rfl (Kd.R_nil _ _ _ _ _) HB4.out
end
set_option maxHeartbeats 1000000 in
theorem parse_long (s : ByteArray) (w : World) (hs : 510 < s.size) (h7 : s.size ≤ 140737488351232) :
  Calls Tryd.prog 14 #[.string s] w fun e w' => ∃ v2_ : Value, e = .returned (.tuple #[.agg #[.int .u8 0, .string ⟨#[]⟩, v2_], .int .i64 40]) ∧ Kd.R k49 49 w' w.heap.size (fun _ => True) v2_ [] ∧ Below w.heap.size w w' := by
 have h510 : decide (510 < (s.size : Int)) = true := decide_eq_true (by omega)
 have hg := heap_alloc_new w (.cells #[.int .u8 0, .string ⟨#[]⟩, .slice none 0 0] 27)
 have HG := Aside0.mk hg
 clear hg
 go_enter Tryd.func14, Tryd.ntmps14
 go_wp2
 refine bodyPost_ret (results_ct rfl _ _ w.heap.size 27 #[.int .u8 0, .string ⟨#[]⟩, .slice none 0 0] (0, 0) _ rfl (by first | exact HG.out | (refine blk_put (cs := #[.int .u8 0, .string ⟨#[]⟩, .slice none 0 0]) ?_ 2 _ rfl; refine blk_put (cs := #[.int .u8 0, .string ⟨#[]⟩, .slice none 0 0]) ?_ 1 _ rfl; refine blk_put (cs := #[.int .u8 0, .string ⟨#[]⟩, .slice none 0 0]) ?_ 0 _ rfl; exact HG.out)) Tryd.underlying27 rfl (by kernel_rfl)) rfl ?_
 exact ⟨.slice none 0 0, rfl, Kd.R_nil _ _ _ _ _, by repeat (first | exact Below.refl _ _ | apply below_alloc | refine below_set ?_ (Nat.le_refl _))⟩
theorem cmd_Parse.calls (a0 : ByteArray) (r1 : Int) (r2 : ByteArray) (r3 : List S49) (r4 : Int) (w : World) (h : cmd_Parse.f a0 = some (r1, r2, r3, r4)) :
  Calls Tryd.prog 14 #[.string a0] w fun e w' => ∃ v2_ : Value, e = .returned (.tuple #[.agg #[.int .u8 r1, .string r2, v2_], .int .i64 r4]) ∧ Kd.R k49 49 w' w.heap.size (fun _ => True) v2_ r3 ∧ Below w.heap.size w w' := by
 by_cases hs : a0.size ≤ 510
 ·exact callsIn_wide.1 (parse_in a0 w hs r1 r2 r3 r4 h)
 ·unfold cmd_Parse.f at h
  rw [if_pos (by omega)] at h
  by_cases h7 : a0.size ≤ 140737488351232
  ·rw [if_pos h7] at h
   cases h
   exact parse_long a0 w (by omega) h7
  ·rw [if_neg h7] at h; cases h
end Go.Proofs.YtljkopbalejcgaaDoor.P
end
