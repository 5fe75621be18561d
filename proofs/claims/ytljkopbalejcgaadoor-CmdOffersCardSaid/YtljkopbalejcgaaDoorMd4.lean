/- CmdOffers: what Mail and Rcpt make has no parameter that the peer did not offer, and each that is asked for, and was; it may be, and its line is short enough: for any path, any peer, size, whether it Requires, any envid, whether it is Never. Conditions: the tables of Go's library that the row lists read as the program's start-up lays them (tied to its text). -/
import Derived.Test.YtljkopbalejcgaaDoorMd3
section
namespace Go.Proofs.YtljkopbalejcgaaDoor.P
open Go.RowKit Go.Proofs.YtljkopbalejcgaaDoorW.PrintWords Go.Proofs.YtljkopbalejcgaaDoorW.PrintLast Go.Proofs.YtljkopbalejcgaaDoorW.PrintMore
attribute [local go_sem] max2_int min2_int max_two min_two max_three min_three max_four min_four
set_option linter.unusedVariables false
set_option linter.unusedSimpArgs false
mutual
def mailroomlaw07_CmdOffers.j0 : Nat → ByteArray → Int → Bool → ByteArray → Bool → Bool → Bool → Bool → Bool → Bool → Bool → Bool → Int → Option (Bool)
 | 0, _, _, _, _, _, _, _, _, _, _, _, _, _ => none
 | k + 1, x0, x2, x3, x4, x5, x37, x192000, x192001, x192002, x192003, x192004, x192005, x192006 => if x37 = true then ((mailroomlaw07_awake.f k).bind fun t193 => (some t193)) else ((cmd_Mail.f x0 x192000 x192001 x192002 x192003 x192004 x192005 x192006 x2 x3 x4).bind fun bt194 => (if bt194.2.2.2 = 0 then ((cmd_Get.f k bt194.1 bt194.2.1 bt194.2.2.1 (⟨#[83, 73, 90, 69]⟩ : ByteArray)).bind fun bt201 => ((cmd_Get.f k bt194.1 bt194.2.1 bt194.2.2.1 (⟨#[82, 69, 81, 85, 73, 82, 69, 84, 76, 83]⟩ : ByteArray)).bind fun bt203 => ((cmd_Get.f k bt194.1 bt194.2.1 bt194.2.2.1 (⟨#[69, 78, 86, 73, 68]⟩ : ByteArray)).bind fun bt205 => ((some (([bt201.2, bt203.2, bt205.2] : List Bool) : List Bool)).bind fun y207 => (mailroomlaw07_CmdOffers.l0 k x0 x3 x4 x5 bt194.2.2.2 bt201.2 bt203.2 bt205.1 bt205.2 0 y207 (y207.length : Int) 0 x192000 x192001 x192002 x192003 x192004 x192005 x192006 bt194.1 bt194.2.1 bt194.2.2.1))))) else (if bt194.2.2.2 = 4 then (if bt194.1 = 0 then (mailroomlaw07_CmdOffers.j2 k x0 x5 x192000 x192001 x192002 x192003 x192004 x192005 x192006) else (some false)) else (some false))))
def mailroomlaw07_CmdOffers.j2 : Nat → ByteArray → Bool → Bool → Bool → Bool → Bool → Bool → Bool → Int → Option (Bool)
 | 0, _, _, _, _, _, _, _, _, _ => none
 | k + 1, x0, x5, x192000, x192001, x192002, x192003, x192004, x192005, x192006 => (cmd_Rcpt.f k x0 x192000 x192001 x192002 x192003 x192004 x192005 x192006 x5).bind fun bt219 => (if bt219.2.2.2 = 0 then ((cmd_Get.f k bt219.1 bt219.2.1 bt219.2.2.1 (⟨#[78, 79, 84, 73, 70, 89]⟩ : ByteArray)).bind fun bt226 => (if x192003 = true then (if (bt226.2 == x5) = true then (if bt226.2 = true then (if bt226.1.toList = ([78, 69, 86, 69, 82] : List UInt8) then (if (bt219.2.2.1.length : Int) = 1 then (if bt219.1 = 4 then (if bt219.2.1.toList = x0.toList then ((mailroomlaw07_shown.f bt219.1 bt219.2.1 bt219.2.2.1 bt219.2.2.2).bind fun t228 => (some (!t228.toList.isEmpty))) else (some false)) else (some false)) else (some false)) else (some false)) else (if (bt219.2.2.1.length : Int) = 0 then (if bt219.1 = 4 then (if bt219.2.1.toList = x0.toList then ((mailroomlaw07_shown.f bt219.1 bt219.2.1 bt219.2.2.1 bt219.2.2.2).bind fun t229 => (some (!t229.toList.isEmpty))) else (some false)) else (some false)) else (some false))) else (some false)) else (if (bt226.2 == false) = true then (if bt226.2 = true then (if bt226.1.toList = ([78, 69, 86, 69, 82] : List UInt8) then (if (bt219.2.2.1.length : Int) = 1 then (if bt219.1 = 4 then (if bt219.2.1.toList = x0.toList then ((mailroomlaw07_shown.f bt219.1 bt219.2.1 bt219.2.2.1 bt219.2.2.2).bind fun t230 => (some (!t230.toList.isEmpty))) else (some false)) else (some false)) else (some false)) else (some false)) else (if (bt219.2.2.1.length : Int) = 0 then (if bt219.1 = 4 then (if bt219.2.1.toList = x0.toList then ((mailroomlaw07_shown.f bt219.1 bt219.2.1 bt219.2.2.1 bt219.2.2.2).bind fun t231 => (some (!t231.toList.isEmpty))) else (some false)) else (some false)) else (some false))) else (some false)))) else (if bt219.2.2.2 = 4 then (some (bt219.1 == 0)) else (some false)))
def mailroomlaw07_CmdOffers.l0 : Nat → ByteArray → Bool → ByteArray → Bool → Int → Bool → Bool → ByteArray → Bool → Int → List Bool → Int → Int → Bool → Bool → Bool → Bool → Bool → Bool → Int → Int → ByteArray → List (S49) → Option (Bool)
 | 0, _, _, _, _, _, _, _, _, _, _, _, _, _, _, _, _, _, _, _, _, _, _, _ => none
 | k + 1, x0, x3, x4, x5, x14, x16, x18, x19, x20, x21, x68, x69, x70, x192000, x192001, x192002, x192003, x192004, x192005, x192006, x201000, x201001, x201002 => if x70 < x69 then (if 0 ≤ x70 then (if x70 < (x68.length : Int) then (if rdOf false x68 x70 = true then (mailroomlaw07_CmdOffers.l0 k x0 x3 x4 x5 x14 x16 x18 x19 x20 (wrap64 (x21 + 1)) x68 x69 (wrap64 (x70 + 1)) x192000 x192001 x192002 x192003 x192004 x192005 x192006 x201000 x201001 x201002) else (mailroomlaw07_CmdOffers.l0 k x0 x3 x4 x5 x14 x16 x18 x19 x20 x21 x68 x69 (wrap64 (x70 + 1)) x192000 x192001 x192002 x192003 x192004 x192005 x192006 x201000 x201001 x201002)) else (none)) else (none)) else (if (x16 != x192005) = true then (some false) else (if x192002 = true then (if (x18 != x3) = true then (some false) else (if x192003 = true then (if (x20 != (!x4.toList.isEmpty)) = true then (some false) else (if x20 = true then (if x19.toList = x4.toList then (if (x201002.length : Int) = x21 then (if x201000 = 3 then (if x201001.toList = x0.toList then ((mailroomlaw07_shown.f x201000 x201001 x201002 x14).bind fun t211 => (if t211.toList = ([] : List UInt8) then (some false) else (mailroomlaw07_CmdOffers.j2 k x0 x5 x192000 x192001 x192002 x192003 x192004 x192005 x192006))) else (some false)) else (some false)) else (some false)) else (some false)) else (if (x201002.length : Int) = x21 then (if x201000 = 3 then (if x201001.toList = x0.toList then ((mailroomlaw07_shown.f x201000 x201001 x201002 x14).bind fun t212 => (if t212.toList = ([] : List UInt8) then (some false) else (mailroomlaw07_CmdOffers.j2 k x0 x5 x192000 x192001 x192002 x192003 x192004 x192005 x192006))) else (some false)) else (some false)) else (some false)))) else (if (x20 != false) = true then (some false) else (if x20 = true then (if x19.toList = x4.toList then (if (x201002.length : Int) = x21 then (if x201000 = 3 then (if x201001.toList = x0.toList then ((mailroomlaw07_shown.f x201000 x201001 x201002 x14).bind fun t213 => (if t213.toList = ([] : List UInt8) then (some false) else (mailroomlaw07_CmdOffers.j2 k x0 x5 x192000 x192001 x192002 x192003 x192004 x192005 x192006))) else (some false)) else (some false)) else (some false)) else (some false)) else (if (x201002.length : Int) = x21 then (if x201000 = 3 then (if x201001.toList = x0.toList then ((mailroomlaw07_shown.f x201000 x201001 x201002 x14).bind fun t214 => (if t214.toList = ([] : List UInt8) then (some false) else (mailroomlaw07_CmdOffers.j2 k x0 x5 x192000 x192001 x192002 x192003 x192004 x192005 x192006))) else (some false)) else (some false)) else (some false)))))) else (if (x18 != false) = true then (some false) else (if x192003 = true then (if (x20 != (!x4.toList.isEmpty)) = true then (some false) else (if x20 = true then (if x19.toList = x4.toList then (if (x201002.length : Int) = x21 then (if x201000 = 3 then (if x201001.toList = x0.toList then ((mailroomlaw07_shown.f x201000 x201001 x201002 x14).bind fun t215 => (if t215.toList = ([] : List UInt8) then (some false) else (mailroomlaw07_CmdOffers.j2 k x0 x5 x192000 x192001 x192002 x192003 x192004 x192005 x192006))) else (some false)) else (some false)) else (some false)) else (some false)) else (if (x201002.length : Int) = x21 then (if x201000 = 3 then (if x201001.toList = x0.toList then ((mailroomlaw07_shown.f x201000 x201001 x201002 x14).bind fun t216 => (if t216.toList = ([] : List UInt8) then (some false) else (mailroomlaw07_CmdOffers.j2 k x0 x5 x192000 x192001 x192002 x192003 x192004 x192005 x192006))) else (some false)) else (some false)) else (some false)))) else (if (x20 != false) = true then (some false) else (if x20 = true then (if x19.toList = x4.toList then (if (x201002.length : Int) = x21 then (if x201000 = 3 then (if x201001.toList = x0.toList then ((mailroomlaw07_shown.f x201000 x201001 x201002 x14).bind fun t217 => (if t217.toList = ([] : List UInt8) then (some false) else (mailroomlaw07_CmdOffers.j2 k x0 x5 x192000 x192001 x192002 x192003 x192004 x192005 x192006))) else (some false)) else (some false)) else (some false)) else (some false)) else (if (x201002.length : Int) = x21 then (if x201000 = 3 then (if x201001.toList = x0.toList then ((mailroomlaw07_shown.f x201000 x201001 x201002 x14).bind fun t218 => (if t218.toList = ([] : List UInt8) then (some false) else (mailroomlaw07_CmdOffers.j2 k x0 x5 x192000 x192001 x192002 x192003 x192004 x192005 x192006))) else (some false)) else (some false)) else (some false))))))))
end
def mailroomlaw07_CmdOffers.f (k : Nat) (a0 : ByteArray) (a1_0 : Bool) (a1_1 : Bool) (a1_2 : Bool) (a1_3 : Bool) (a1_4 : Bool) (a1_5 : Bool) (a1_6 : Int) (a2 : Int) (a3 : Bool) (a4 : ByteArray) (a5 : Bool) : Option (Bool) := if (wrap64 ((a0.size : Int) + (a4.size : Int))) > 5000 then (mailroomlaw07_CmdOffers.j0 k a0 a2 a3 a4 a5 true a1_0 a1_1 a1_2 a1_3 a1_4 a1_5 a1_6) else ((mailroomlaw07_awake.f k).bind fun t192 => (mailroomlaw07_CmdOffers.j0 k a0 a2 a3 a4 a5 (!t192) a1_0 a1_1 a1_2 a1_3 a1_4 a1_5 a1_6))
theorem mailroomlaw07_CmdOffers.mono_l : ∀ k, (∀ y0 y1 y2 y3 y4 y5 y6 y7 y8 y9 y10 y11 y12, LeO (mailroomlaw07_CmdOffers.j0 k y0 y1 y2 y3 y4 y5 y6 y7 y8 y9 y10 y11 y12) (mailroomlaw07_CmdOffers.j0 (k + 1) y0 y1 y2 y3 y4 y5 y6 y7 y8 y9 y10 y11 y12)) ∧ (∀ y0 y1 y2 y3 y4 y5 y6 y7 y8, LeO (mailroomlaw07_CmdOffers.j2 k y0 y1 y2 y3 y4 y5 y6 y7 y8) (mailroomlaw07_CmdOffers.j2 (k + 1) y0 y1 y2 y3 y4 y5 y6 y7 y8)) ∧ (∀ y0 y1 y2 y3 y4 y5 y6 y7 y8 y9 y10 y11 y12 y13 y14 y15 y16 y17 y18 y19 y20 y21 y22, LeO (mailroomlaw07_CmdOffers.l0 k y0 y1 y2 y3 y4 y5 y6 y7 y8 y9 y10 y11 y12 y13 y14 y15 y16 y17 y18 y19 y20 y21 y22) (mailroomlaw07_CmdOffers.l0 (k + 1) y0 y1 y2 y3 y4 y5 y6 y7 y8 y9 y10 y11 y12 y13 y14 y15 y16 y17 y18 y19 y20 y21 y22))
 | 0 => ⟨fun _ _ _ _ _ _ _ _ _ _ _ _ _ r h => by simp [mailroomlaw07_CmdOffers.j0] at h, fun _ _ _ _ _ _ _ _ _ r h => by simp [mailroomlaw07_CmdOffers.j2] at h, fun _ _ _ _ _ _ _ _ _ _ _ _ _ _ _ _ _ _ _ _ _ _ _ r h => by simp [mailroomlaw07_CmdOffers.l0] at h⟩
 | k + 1 => by
  obtain ⟨ih0, ih1, ih2⟩ := mailroomlaw07_CmdOffers.mono_l k
  refine ⟨?_, ?_, ?_⟩
  ·intro y0 y1 y2 y3 y4 y5 y6 y7 y8 y9 y10 y11 y12
   unfold mailroomlaw07_CmdOffers.j0
   repeat' first
   | (with_reducible exact ih0 _ _ _ _ _ _ _ _ _ _ _ _ _)
   | (with_reducible exact ih1 _ _ _ _ _ _ _ _ _)
   | (with_reducible exact ih2 _ _ _ _ _ _ _ _ _ _ _ _ _ _ _ _ _ _ _ _ _ _ _)
   | (with_reducible exact cmd_Get.mono _ _ _ _ _)
   | (with_reducible exact cmd_Rcpt.mono _ _ _ _ _ _ _ _ _ _)
   | (with_reducible exact mailroomlaw07_awake.mono _)
   | (with_reducible exact LeO.refl _)
   | (with_reducible exact LeO.none _)
   | (with_reducible refine LeO.ite ?_ ?_)
   | (with_reducible refine LeO.bind ?_ (fun _ => ?_))
   | exact ih0 _ _ _ _ _ _ _ _ _ _ _ _ _
   | exact ih1 _ _ _ _ _ _ _ _ _
   | exact ih2 _ _ _ _ _ _ _ _ _ _ _ _ _ _ _ _ _ _ _ _ _ _ _
   | exact cmd_Get.mono _ _ _ _ _
   | exact cmd_Rcpt.mono _ _ _ _ _ _ _ _ _ _
   | exact mailroomlaw07_awake.mono _
   | exact LeO.none _
   | refine LeO.ite ?_ ?_
   | refine LeO.bind ?_ (fun _ => ?_)
  ·intro y0 y1 y2 y3 y4 y5 y6 y7 y8
   unfold mailroomlaw07_CmdOffers.j2
   repeat' first
   | (with_reducible exact ih0 _ _ _ _ _ _ _ _ _ _ _ _ _)
   | (with_reducible exact ih1 _ _ _ _ _ _ _ _ _)
   | (with_reducible exact ih2 _ _ _ _ _ _ _ _ _ _ _ _ _ _ _ _ _ _ _ _ _ _ _)
   | (with_reducible exact cmd_Get.mono _ _ _ _ _)
   | (with_reducible exact cmd_Rcpt.mono _ _ _ _ _ _ _ _ _ _)
   | (with_reducible exact mailroomlaw07_awake.mono _)
   | (with_reducible exact LeO.refl _)
   | (with_reducible exact LeO.none _)
   | (with_reducible refine LeO.ite ?_ ?_)
   | (with_reducible refine LeO.bind ?_ (fun _ => ?_))
   | exact ih0 _ _ _ _ _ _ _ _ _ _ _ _ _
   | exact ih1 _ _ _ _ _ _ _ _ _
   | exact ih2 _ _ _ _ _ _ _ _ _ _ _ _ _ _ _ _ _ _ _ _ _ _ _
   | exact cmd_Get.mono _ _ _ _ _
   | exact cmd_Rcpt.mono _ _ _ _ _ _ _ _ _ _
   | exact mailroomlaw07_awake.mono _
   | exact LeO.none _
   | refine LeO.ite ?_ ?_
   | refine LeO.bind ?_ (fun _ => ?_)
  ·intro y0 y1 y2 y3 y4 y5 y6 y7 y8 y9 y10 y11 y12 y13 y14 y15 y16 y17 y18 y19 y20 y21 y22
   unfold mailroomlaw07_CmdOffers.l0
   repeat' first
   | (with_reducible exact ih0 _ _ _ _ _ _ _ _ _ _ _ _ _)
   | (with_reducible exact ih1 _ _ _ _ _ _ _ _ _)
   | (with_reducible exact ih2 _ _ _ _ _ _ _ _ _ _ _ _ _ _ _ _ _ _ _ _ _ _ _)
   | (with_reducible exact cmd_Get.mono _ _ _ _ _)
   | (with_reducible exact cmd_Rcpt.mono _ _ _ _ _ _ _ _ _ _)
   | (with_reducible exact mailroomlaw07_awake.mono _)
   | (with_reducible exact LeO.refl _)
   | (with_reducible exact LeO.none _)
   | (with_reducible refine LeO.ite ?_ ?_)
   | (with_reducible refine LeO.bind ?_ (fun _ => ?_))
   | exact ih0 _ _ _ _ _ _ _ _ _ _ _ _ _
   | exact ih1 _ _ _ _ _ _ _ _ _
   | exact ih2 _ _ _ _ _ _ _ _ _ _ _ _ _ _ _ _ _ _ _ _ _ _ _
   | exact cmd_Get.mono _ _ _ _ _
   | exact cmd_Rcpt.mono _ _ _ _ _ _ _ _ _ _
   | exact mailroomlaw07_awake.mono _
   | exact LeO.none _
   | refine LeO.ite ?_ ?_
   | refine LeO.bind ?_ (fun _ => ?_)
theorem mailroomlaw07_CmdOffers.mono : ∀ a0 a1 a2 a3 a4 a5 a6 a7 a8 a9 a10 a11 k, LeO (mailroomlaw07_CmdOffers.f k a0 a1 a2 a3 a4 a5 a6 a7 a8 a9 a10 a11) (mailroomlaw07_CmdOffers.f (k + 1) a0 a1 a2 a3 a4 a5 a6 a7 a8 a9 a10 a11) := by
 intro a0 a1 a2 a3 a4 a5 a6 a7 a8 a9 a10 a11 k
 obtain ⟨ih0, ih1, ih2⟩ := mailroomlaw07_CmdOffers.mono_l k
 unfold mailroomlaw07_CmdOffers.f
 repeat' first
   | (with_reducible exact ih0 _ _ _ _ _ _ _ _ _ _ _ _ _)
   | (with_reducible exact ih1 _ _ _ _ _ _ _ _ _)
   | (with_reducible exact ih2 _ _ _ _ _ _ _ _ _ _ _ _ _ _ _ _ _ _ _ _ _ _ _)
   | (with_reducible exact cmd_Get.mono _ _ _ _ _)
   | (with_reducible exact cmd_Rcpt.mono _ _ _ _ _ _ _ _ _ _)
   | (with_reducible exact mailroomlaw07_awake.mono _)
   | (with_reducible exact LeO.refl _)
   | (with_reducible exact LeO.none _)
   | (with_reducible refine LeO.ite ?_ ?_)
   | (with_reducible refine LeO.bind ?_ (fun _ => ?_))
   | exact ih0 _ _ _ _ _ _ _ _ _ _ _ _ _
   | exact ih1 _ _ _ _ _ _ _ _ _
   | exact ih2 _ _ _ _ _ _ _ _ _ _ _ _ _ _ _ _ _ _ _ _ _ _ _
   | exact cmd_Get.mono _ _ _ _ _
   | exact cmd_Rcpt.mono _ _ _ _ _ _ _ _ _ _
   | exact mailroomlaw07_awake.mono _
   | exact LeO.none _
   | refine LeO.ite ?_ ?_
   | refine LeO.bind ?_ (fun _ => ?_)
set_option maxHeartbeats 8000000 in
set_option maxRecDepth 100000 in
theorem mailroomlaw07_CmdOffers.calls (k : Nat) (a0 : ByteArray) (a1_0 : Bool) (a1_1 : Bool) (a1_2 : Bool) (a1_3 : Bool) (a1_4 : Bool) (a1_5 : Bool) (a1_6 : Int) (a2 : Int) (a3 : Bool) (a4 : ByteArray) (a5 : Bool) (r : Bool) (w : World) (h : mailroomlaw07_CmdOffers.f k a0 a1_0 a1_1 a1_2 a1_3 a1_4 a1_5 a1_6 a2 a3 a4 a5 = some r) (hr_ : Aside0 (r = true)) (hG : GL w) :
  Calls Tryd.prog 3 #[.string a0, .agg #[.bool a1_0, .bool a1_1, .bool a1_2, .bool a1_3, .bool a1_4, .bool a1_5, .int .i64 a1_6], .int .i64 a2, .bool a3, .string a4, .bool a5] w fun e w' => e = .returned (.bool r) ∧ Below w.heap.size w w' := by
 have hu23 := Tryd.underlying23
 have hu27 := Tryd.underlying27
 have HB := Aside0.mk (Below.refl w.heap.size w)
 have H : (if (wrap64 ((a0.size : Int) + (a4.size : Int))) > 5000 then (mailroomlaw07_CmdOffers.j0 k a0 a2 a3 a4 a5 true a1_0 a1_1 a1_2 a1_3 a1_4 a1_5 a1_6) else ((mailroomlaw07_awake.f k).bind fun t192 => (mailroomlaw07_CmdOffers.j0 k a0 a2 a3 a4 a5 (!t192) a1_0 a1_1 a1_2 a1_3 a1_4 a1_5 a1_6))) = some r := h
 clear h
 have HC7 := Aside0.mk H
 clear H
 go_enter Tryd.func3, Tryd.ntmps3
 go_upto_region 1 with (first | ((with_reducible refine gate_dst (N := 7) rfl ?_); (try (refine gate_guard (by rfl) ?_; dsimp only)); refine box_event ?hg (N := 7) ?hd (cs := #[.bool a1_0, .bool a1_1, .bool a1_2, .bool a1_3, .bool a1_4, .bool a1_5, .int .i64 a1_6]) (t := 23) ?hr ?_; (case hd => rfl); (case hg => rfl); (case hr => first | (go_simp; done) | (go_simp; rfl)); intro gb191 hg w8 hbox hb; have n0_ := Aside0.mk (below_step (by repeat (first | (with_reducible first | exact HB.out | apply below_alloc | apply pw_below_drewN | apply below_drew1) | exact HB.out)) hb); have n1_ := Aside0.mk (hbox); have n2_ := Aside0.mk ((by rw [hg]; exact (below_size (by repeat (first | (with_reducible first | exact HB.out | apply below_alloc | apply pw_below_drewN | apply below_drew1) | exact HB.out))) : w.heap.size ≤ gb191)); have n3_ := Aside0.mk ((by rw [hg]; exact (below_size (by repeat (first | (with_reducible first | exact HB.out | apply below_alloc | apply pw_below_drewN | apply below_drew1) | exact HB.out))) : w.heap.size ≤ gb191)); clear HB; have HB := n0_; have BK191 := n1_; have GW191 := n2_; have GE191 := n3_; clear n0_ n1_ n2_ n3_; clear hb hbox hg))
 (try simp only [Act.put, List.setIfInBounds_toArray, List.set_cons_zero, List.set_cons_succ])
 go_cut [37] (fun v37 wc => ∃ (kq : Nat) (x37_6 : Bool), v37 = .bool x37_6 ∧ Aside0 (mailroomlaw07_CmdOffers.j0 kq a0 a2 a3 a4 a5 x37_6 a1_0 a1_1 a1_2 a1_3 a1_4 a1_5 a1_6 = some r) ∧ Aside0 (kq ≤ k) ∧ Aside0 (wc.heap[gb191]? = some (.cells #[.bool a1_0, .bool a1_1, .bool a1_2, .bool a1_3, .bool a1_4, .bool a1_5, .int .i64 a1_6] 23 (0, 0))) ∧ Aside0 (Below w.heap.size w wc))
 case first =>
  have H := HC7.out
  clear HC7
  by_cases c9 : (wrap64 ((a0.size : Int) + (a4.size : Int))) > 5000
  ·rw [if_pos c9] at H
   have c9b0 : decide (5000 < (wrap64 ((a0.size : Int) + (a4.size : Int)))) = true := decide_eq_true c9
   clear c9
   (first | rw [c9b0] | (simp only [i64_w, i32_w]; rw [c9b0]) | skip)
   have H' := Aside0.mk H
   clear H
   as_aux_lemma =>
    go_wp2
    go_meet
    case rel => exact ⟨_, (true), (by first | rfl | (simp; done) | (simp [*]; done)), H', ⟨by first | omega | exact Nat.le_refl _⟩, ⟨by (with_reducible repeat (first | refine blk_drewN ?_ _ | refine blk_drew ?_ | refine blk_alloc ?_ _)); exact BK191.out⟩, ⟨by repeat (first | (with_reducible first | exact HB.out | apply below_alloc | apply pw_below_drewN | apply below_drew1 | refine below_set ?_ GE191.out) | exact HB.out)⟩⟩
  ·rw [if_neg c9] at H
   have c9b0 : decide (5000 < (wrap64 ((a0.size : Int) + (a4.size : Int)))) = false := decide_eq_false c9
   clear c9
   (first | rw [c9b0] | (simp only [i64_w, i32_w]; rw [c9b0]) | skip)
   replace H := Option.bind_eq_some_iff.mp H
   obtain ⟨t192, A100, H⟩ := H
   replace H : (mailroomlaw07_CmdOffers.j0 k a0 a2 a3 a4 a5 (!t192) a1_0 a1_1 a1_2 a1_3 a1_4 a1_5 a1_6) = some r := H
   have A10 := Aside0.mk A100
   clear A100
   have H' := Aside0.mk H
   clear H
   as_aux_lemma =>
    go_wp2_with (first | (go_at_call 7; (with_reducible refine (mailroomlaw07_awake.calls k  t192 _ A10.out (GL.of_below hG (by repeat (first | (with_reducible first | exact HB.out | exact Below.refl _ _ | apply below_alloc | apply pw_below_drewN | apply below_drew1) | exact HB.out | exact hb | refine below_set ?_ (by assumption))))).mono ?_); rintro e w11 ⟨rfl, hb⟩; have n0_ := Aside0.mk (blk_below (g := gb191) (o := .cells #[.bool a1_0, .bool a1_1, .bool a1_2, .bool a1_3, .bool a1_4, .bool a1_5, .int .i64 a1_6] 23 (0, 0)) (by (with_reducible repeat (first | refine blk_drewN ?_ _ | refine blk_drew ?_ | refine blk_alloc ?_ _)); exact BK191.out) hb); have n1_ := Aside0.mk (below_step (by repeat (first | (with_reducible first | exact HB.out | apply below_alloc | apply pw_below_drewN | apply below_drew1 | refine below_set ?_ GE191.out) | exact HB.out)) hb); clear BK191; clear HB; have BK191 := n0_; have HB := n1_; clear n0_ n1_; (try clear hb); (try clear hb2); (try clear hk); (try clear hi)))
    go_meet
    case rel => exact ⟨_, (!t192), (by first | rfl | (simp; done) | (simp [*]; done)), H', ⟨by first | omega | exact Nat.le_refl _⟩, ⟨by (with_reducible repeat (first | refine blk_drewN ?_ _ | refine blk_drew ?_ | refine blk_alloc ?_ _)); exact BK191.out⟩, ⟨by repeat (first | (with_reducible first | exact HB.out | apply below_alloc | apply pw_below_drewN | apply below_drew1 | refine below_set ?_ GE191.out) | exact HB.out)⟩⟩
 case rest =>
  clear HC7
  try clear p2
  try clear c3
  try clear p6
  try clear c9
  try clear c9b0
  obtain ⟨kq, x37_6, rfl, HA, HJ6, BK191, HB⟩ := hcut
  cases kq with
  | zero => exact absurd HA.out (by simp [mailroomlaw07_CmdOffers.j0])
  | succ kj6 =>
   have H := HA.out
   clear HA
   simp only [mailroomlaw07_CmdOffers.j0] at H
   by_cases c12 : x37_6 = true
   ·subst c12
    have H1 : ((mailroomlaw07_awake.f kj6).bind fun t193 => (some t193)) = some r := by rw [if_pos rfl] at H; exact H
    clear H
    have H := H1
    clear H1
    replace H := Option.bind_eq_some_iff.mp H
    obtain ⟨t193, A130, H⟩ := H
    replace H : (some t193) = some r := H
    have A13 := Aside0.mk A130
    clear A130
    obtain rfl := Option.some.inj H
    as_aux_lemma =>
     go_wp2_with (first | ((with_reducible refine gate_callee (f := 7) rfl ?_); refine goesL_ (some 38) rfl rfl Tryd.func7 (by kernel_rfl) rfl #[] rfl (by (try simp only [List.map_toArray, List.map_cons, List.map_nil]); first | done | rfl | (simp only [List.length_drop, List.length_take]; rfl)) ?_; (with_reducible refine (mailroomlaw07_awake.calls kj6  t193 _ A13.out (GL.of_below hG (by repeat (first | (with_reducible first | exact HB.out | exact Below.refl _ _ | apply below_alloc | apply pw_below_drewN | apply below_drew1) | exact HB.out | exact hb | refine below_set ?_ (by assumption))))).mono ?_); rintro e w14 ⟨rfl, hb⟩; refine ⟨_, rfl, ?_⟩; have n0_ := Aside0.mk (blk_below (g := gb191) (o := .cells #[.bool a1_0, .bool a1_1, .bool a1_2, .bool a1_3, .bool a1_4, .bool a1_5, .int .i64 a1_6] 23 (0, 0)) (by (with_reducible repeat (first | refine blk_drewN ?_ _ | refine blk_drew ?_ | refine blk_alloc ?_ _)); exact BK191.out) hb); have n1_ := Aside0.mk (below_step (by repeat (first | (with_reducible first | exact HB.out | apply below_alloc | apply pw_below_drewN | apply below_drew1 | refine below_set ?_ GE191.out) | exact HB.out)) hb); clear BK191; clear HB; have BK191 := n0_; have HB := n1_; clear n0_ n1_; (try clear hb); (try clear hb2); (try clear hk); (try clear hi)))
     go_ret
     exact ⟨by first | rfl | (simp [errW_none, errW_some] <;> rfl) | (simp [*, errW_none, errW_some] <;> rfl), by repeat (first | (with_reducible first | exact HB.out | apply below_alloc | apply pw_below_drewN | apply below_drew1 | refine below_set ?_ GE191.out) | exact HB.out)⟩
   ·replace c12 := Bool.eq_false_iff.mpr c12
    subst c12
    have H1 : ((cmd_Mail.f a0 a1_0 a1_1 a1_2 a1_3 a1_4 a1_5 a1_6 a2 a3 a4).bind fun bt194 => (if bt194.2.2.2 = 0 then ((cmd_Get.f kj6 bt194.1 bt194.2.1 bt194.2.2.1 (⟨#[83, 73, 90, 69]⟩ : ByteArray)).bind fun bt201 => ((cmd_Get.f kj6 bt194.1 bt194.2.1 bt194.2.2.1 (⟨#[82, 69, 81, 85, 73, 82, 69, 84, 76, 83]⟩ : ByteArray)).bind fun bt203 => ((cmd_Get.f kj6 bt194.1 bt194.2.1 bt194.2.2.1 (⟨#[69, 78, 86, 73, 68]⟩ : ByteArray)).bind fun bt205 => ((some (([bt201.2, bt203.2, bt205.2] : List Bool) : List Bool)).bind fun y207 => (mailroomlaw07_CmdOffers.l0 kj6 a0 a3 a4 a5 bt194.2.2.2 bt201.2 bt203.2 bt205.1 bt205.2 0 y207 (y207.length : Int) 0 a1_0 a1_1 a1_2 a1_3 a1_4 a1_5 a1_6 bt194.1 bt194.2.1 bt194.2.2.1))))) else (if bt194.2.2.2 = 4 then (if bt194.1 = 0 then (mailroomlaw07_CmdOffers.j2 kj6 a0 a5 a1_0 a1_1 a1_2 a1_3 a1_4 a1_5 a1_6) else (some false)) else (some false)))) = some r := by rw [if_neg (show ¬ (false = true) by decide)] at H; exact H
    clear H
    have H := H1
    clear H1
    replace H := Option.bind_eq_some_iff.mp H
    obtain ⟨⟨t194, t195, t196, t199⟩, A150, H⟩ := H
    replace H : (if t199 = 0 then ((cmd_Get.f kj6 t194 t195 t196 (⟨#[83, 73, 90, 69]⟩ : ByteArray)).bind fun bt201 => ((cmd_Get.f kj6 t194 t195 t196 (⟨#[82, 69, 81, 85, 73, 82, 69, 84, 76, 83]⟩ : ByteArray)).bind fun bt203 => ((cmd_Get.f kj6 t194 t195 t196 (⟨#[69, 78, 86, 73, 68]⟩ : ByteArray)).bind fun bt205 => ((some (([bt201.2, bt203.2, bt205.2] : List Bool) : List Bool)).bind fun y207 => (mailroomlaw07_CmdOffers.l0 kj6 a0 a3 a4 a5 t199 bt201.2 bt203.2 bt205.1 bt205.2 0 y207 (y207.length : Int) 0 a1_0 a1_1 a1_2 a1_3 a1_4 a1_5 a1_6 t194 t195 t196))))) else (if t199 = 4 then (if t194 = 0 then (mailroomlaw07_CmdOffers.j2 kj6 a0 a5 a1_0 a1_1 a1_2 a1_3 a1_4 a1_5 a1_6) else (some false)) else (some false))) = some r := H
    have A15 := Aside0.mk A150
    clear A150
    have HC16 := Aside0.mk H
    clear H
    have hcz17_0 : wc.cell? ⟨gb191, 0, none⟩ = some (.bool a1_0) := (blk_cell BK191.out 0).trans rfl
    have hcz17_1 : wc.cell? ⟨gb191, 1, none⟩ = some (.bool a1_1) := (blk_cell BK191.out 1).trans rfl
    have hcz17_2 : wc.cell? ⟨gb191, 2, none⟩ = some (.bool a1_2) := (blk_cell BK191.out 2).trans rfl
    have hcz17_3 : wc.cell? ⟨gb191, 3, none⟩ = some (.bool a1_3) := (blk_cell BK191.out 3).trans rfl
    have hcz17_4 : wc.cell? ⟨gb191, 4, none⟩ = some (.bool a1_4) := (blk_cell BK191.out 4).trans rfl
    have hcz17_5 : wc.cell? ⟨gb191, 5, none⟩ = some (.bool a1_5) := (blk_cell BK191.out 5).trans rfl
    have hcz17_6 : wc.cell? ⟨gb191, 6, none⟩ = some (.int .i64 a1_6) := (blk_cell BK191.out 6).trans rfl
    have hfz17_0 := blk_frozen BK191.out 0
    have hfz17_1 := blk_frozen BK191.out 1
    have hfz17_2 := blk_frozen BK191.out 2
    have hfz17_3 := blk_frozen BK191.out 3
    have hfz17_4 := blk_frozen BK191.out 4
    have hfz17_5 := blk_frozen BK191.out 5
    have hfz17_6 := blk_frozen BK191.out 6
    as_aux_lemma =>
     go_upto_if 49 with (first | ((with_reducible refine gate_callee (f := 8) rfl ?_); refine goesL_ (some 45) rfl rfl Tryd.func8 (by kernel_rfl) rfl #[.string a0, .agg #[.bool a1_0, .bool a1_1, .bool a1_2, .bool a1_3, .bool a1_4, .bool a1_5, .int .i64 a1_6], .int .i64 a2, .bool a3, .string a4] rfl (by (try simp only [List.map_toArray, List.map_cons, List.map_nil]); first | done | rfl | (simp only [List.length_drop, List.length_take]; rfl)) ?_; (with_reducible refine (cmd_Mail.calls a0 a1_0 a1_1 a1_2 a1_3 a1_4 a1_5 a1_6 a2 a3 a4 t194 t195 t196 t199 _ A15.out (GL.of_below hG (by repeat (first | (with_reducible first | exact HB.out | exact Below.refl _ _ | apply below_alloc | apply pw_below_drewN | apply below_drew1) | exact HB.out | exact hb | refine below_set ?_ (by assumption))))).mono ?_); rintro e w18 ⟨v197, rfl, ho0, hb⟩; refine ⟨_, rfl, ?_⟩; have n0_ := Aside0.mk (Kd.R_lower ho0 (below_size (by repeat (first | (with_reducible first | exact HB.out | apply below_alloc | apply pw_below_drewN | apply below_drew1 | refine below_set ?_ GE191.out) | exact HB.out)))); have n1_ := Aside0.mk (blk_below (g := gb191) (o := .cells #[.bool a1_0, .bool a1_1, .bool a1_2, .bool a1_3, .bool a1_4, .bool a1_5, .int .i64 a1_6] 23 (0, 0)) (by (with_reducible repeat (first | refine blk_drewN ?_ _ | refine blk_drew ?_ | refine blk_alloc ?_ _)); exact BK191.out) hb); have n2_ := Aside0.mk (below_step (by repeat (first | (with_reducible first | exact HB.out | apply below_alloc | apply pw_below_drewN | apply below_drew1 | refine below_set ?_ GE191.out) | exact HB.out)) hb); clear BK191; clear HB; have HO198 := n0_; have BK191 := n1_; have HB := n2_; clear n0_ n1_ n2_; (try clear hb); (try clear hb2); (try clear hk); (try clear hi); (try clear ho0)) | ((with_reducible refine gate_dst (N := 13) rfl ?_); (try (refine gate_guard (by rfl) ?_; dsimp only)); refine box_event ?hg (N := 13) ?hd (cs := #[.int .u8 0, .string (⟨#[]⟩ : ByteArray), .slice none 0 0]) (t := 27) ?hr ?_; (case hd => rfl); (case hg => rfl); (case hr => first | (go_simp; done) | (go_simp; rfl)); intro gb200 hg w19 hbox hb; have n0_ := Aside0.mk (Kd.R_below (by (with_reducible repeat (first | apply Kd.R_alloc | apply Kd.R_drewN | apply Kd.R_drew)); exact HO198.out) hb); have n1_ := Aside0.mk (blk_below (g := gb191) (o := .cells #[.bool a1_0, .bool a1_1, .bool a1_2, .bool a1_3, .bool a1_4, .bool a1_5, .int .i64 a1_6] 23 (0, 0)) (by (with_reducible repeat (first | refine blk_drewN ?_ _ | refine blk_drew ?_ | refine blk_alloc ?_ _)); exact BK191.out) hb); have n2_ := Aside0.mk (below_step (by repeat (first | (with_reducible first | exact HB.out | apply below_alloc | apply pw_below_drewN | apply below_drew1 | refine below_set ?_ GE191.out) | exact HB.out)) hb); have n3_ := Aside0.mk (hbox); have n4_ := Aside0.mk ((by rw [hg]; exact (below_size (by repeat (first | (with_reducible first | exact HB.out | apply below_alloc | apply pw_below_drewN | apply below_drew1 | refine below_set ?_ GE191.out) | exact HB.out))) : w.heap.size ≤ gb200)); have n5_ := Aside0.mk ((by rw [hg]; exact (below_size (by repeat (first | (with_reducible first | exact HB.out | apply below_alloc | apply pw_below_drewN | apply below_drew1 | refine below_set ?_ GE191.out) | exact HB.out))) : w.heap.size ≤ gb200)); have n6_ := Aside0.mk ((by rw [hg]; exact Nat.ne_of_lt (blk_lt (g := gb191) (o := .cells #[.bool a1_0, .bool a1_1, .bool a1_2, .bool a1_3, .bool a1_4, .bool a1_5, .int .i64 a1_6] 23 (0, 0)) (by (with_reducible repeat (first | refine blk_drewN ?_ _ | refine blk_drew ?_ | refine blk_alloc ?_ _)); exact BK191.out)) : gb191 ≠ gb200)); have n7_ := Aside0.mk ((by rw [hg]; exact Nat.ne_of_gt (blk_lt (g := gb191) (o := .cells #[.bool a1_0, .bool a1_1, .bool a1_2, .bool a1_3, .bool a1_4, .bool a1_5, .int .i64 a1_6] 23 (0, 0)) (by (with_reducible repeat (first | refine blk_drewN ?_ _ | refine blk_drew ?_ | refine blk_alloc ?_ _)); exact BK191.out)) : gb200 ≠ gb191)); clear HO198; clear BK191; clear HB; have HO198 := n0_; have BK191 := n1_; have HB := n2_; have BK200 := n3_; have GW200 := n4_; have GE200 := n5_; have NB191_200 := n6_; have NB200_191 := n7_; clear n0_ n1_ n2_ n3_ n4_ n5_ n6_ n7_; clear hb hbox hg; have hnb20 := NB200_191.out; have hnc20 := NB191_200.out; have hcz21_0 : w19.cell? ⟨gb200, 0, none⟩ = some (.int .u8 0) := (blk_cell BK200.out 0).trans rfl; have hcz21_1 : w19.cell? ⟨gb200, 1, none⟩ = some (.string (⟨#[]⟩ : ByteArray)) := (blk_cell BK200.out 1).trans rfl; have hcz21_2 : w19.cell? ⟨gb200, 2, none⟩ = some (.slice none 0 0) := (blk_cell BK200.out 2).trans rfl; have hfz21_0 := blk_frozen BK200.out 0; have hfz21_1 := blk_frozen BK200.out 1; have hfz21_2 := blk_frozen BK200.out 2; obtain ⟨Ao22, co22, eo22⟩ := Kd.R_slice HO198.out; subst eo22))
     (try simp only [Act.put, List.setIfInBounds_toArray, List.set_cons_zero, List.set_cons_succ])
     go_cut [] (fun wc => ∃ (kq : Nat), Aside0 (mailroomlaw07_CmdOffers.j2 kq a0 a5 a1_0 a1_1 a1_2 a1_3 a1_4 a1_5 a1_6 = some r) ∧ Aside0 (kq ≤ kj6) ∧ Aside0 (Kd.R k49 49 wc w.heap.size (fun _ => True) (.slice Ao22 t196.length co22) t196) ∧ Aside0 (wc.heap[gb191]? = some (.cells #[.bool a1_0, .bool a1_1, .bool a1_2, .bool a1_3, .bool a1_4, .bool a1_5, .int .i64 a1_6] 23 (0, 0))) ∧ Aside0 (wc.heap[gb200]? = some (.cells #[.int .u8 t194, .string t195, (.slice Ao22 t196.length co22)] 27 (0, 0))) ∧ Aside0 (Below w.heap.size w wc))
     case first =>
      have H := HC16.out
      clear HC16
      by_cases c23 : t199 = 0
      ·rw [if_pos c23] at H
       have c23b0 : (t199 == 0) = true := beq_iff_eq.mpr c23
       have c23b1 : (t199 != 0) = false := bne_eq_false_iff_eq.mpr c23
       clear c23
       (first | rw [c23b0] | (simp only [i64_w, i32_w]; rw [c23b0]) | skip)
       replace H := Option.bind_eq_some_iff.mp H
       obtain ⟨⟨t201, t202⟩, A240, H⟩ := H
       replace H : ((cmd_Get.f kj6 t194 t195 t196 (⟨#[82, 69, 81, 85, 73, 82, 69, 84, 76, 83]⟩ : ByteArray)).bind fun bt203 => ((cmd_Get.f kj6 t194 t195 t196 (⟨#[69, 78, 86, 73, 68]⟩ : ByteArray)).bind fun bt205 => ((some (([t202, bt203.2, bt205.2] : List Bool) : List Bool)).bind fun y207 => (mailroomlaw07_CmdOffers.l0 kj6 a0 a3 a4 a5 t199 t202 bt203.2 bt205.1 bt205.2 0 y207 (y207.length : Int) 0 a1_0 a1_1 a1_2 a1_3 a1_4 a1_5 a1_6 t194 t195 t196)))) = some r := H
       have A24 := Aside0.mk A240
       clear A240
       replace H := Option.bind_eq_some_iff.mp H
       obtain ⟨⟨t203, t204⟩, A250, H⟩ := H
       replace H : ((cmd_Get.f kj6 t194 t195 t196 (⟨#[69, 78, 86, 73, 68]⟩ : ByteArray)).bind fun bt205 => ((some (([t202, t204, bt205.2] : List Bool) : List Bool)).bind fun y207 => (mailroomlaw07_CmdOffers.l0 kj6 a0 a3 a4 a5 t199 t202 t204 bt205.1 bt205.2 0 y207 (y207.length : Int) 0 a1_0 a1_1 a1_2 a1_3 a1_4 a1_5 a1_6 t194 t195 t196))) = some r := H
       have A25 := Aside0.mk A250
       clear A250
       replace H := Option.bind_eq_some_iff.mp H
       obtain ⟨⟨t205, t206⟩, A260, H⟩ := H
       replace H : ((some (([t202, t204, t206] : List Bool) : List Bool)).bind fun y207 => (mailroomlaw07_CmdOffers.l0 kj6 a0 a3 a4 a5 t199 t202 t204 t205 t206 0 y207 (y207.length : Int) 0 a1_0 a1_1 a1_2 a1_3 a1_4 a1_5 a1_6 t194 t195 t196)) = some r := H
       have A26 := Aside0.mk A260
       clear A260
       obtain ⟨y207, hy207⟩ : ∃ y_ : List Bool, y_ = (([t202, t204, t206] : List Bool)) := ⟨_, rfl⟩
       replace H : (mailroomlaw07_CmdOffers.l0 kj6 a0 a3 a4 a5 t199 t202 t204 t205 t206 0 y207 (y207.length : Int) 0 a1_0 a1_1 a1_2 a1_3 a1_4 a1_5 a1_6 t194 t195 t196) = some r := by first | (rw [hy207]; with_reducible exact H) | (have H2_ := (Option.bind_some _ _).symm.trans H; rw [hy207]; with_reducible exact H2_) | (have H2_ := (Option.bind_some _ _).symm.trans H; with_reducible exact H2_) | with_reducible exact H | (rw [hy207]; exact H) | exact H
       have Ny207 := Aside0.mk hy207
       clear hy207
       have H' := Aside0.mk H
       clear H
       have hnb27 := NB200_191.out
       have hnc27 := NB191_200.out
       have hcz28_0 : w19.cell? ⟨gb200, 0, none⟩ = some (.int .u8 0) := (blk_cell BK200.out 0).trans rfl
       have hcz28_1 : w19.cell? ⟨gb200, 1, none⟩ = some (.string (⟨#[]⟩ : ByteArray)) := (blk_cell BK200.out 1).trans rfl
       have hcz28_2 : w19.cell? ⟨gb200, 2, none⟩ = some (.slice none 0 0) := (blk_cell BK200.out 2).trans rfl
       have hfz28_0 := blk_frozen BK200.out 0
       have hfz28_1 := blk_frozen BK200.out 1
       have hfz28_2 := blk_frozen BK200.out 2
       as_aux_lemma =>
        go_wp2_with (first | ((with_reducible refine gate_callee (f := 9) rfl ?_); refine goesL_ (some 52) rfl rfl Tryd.func9 (by kernel_rfl) rfl #[.agg #[.int .u8 t194, .string t195, .slice Ao22 t196.length co22], .string (⟨#[83, 73, 90, 69]⟩ : ByteArray)] rfl (by (try simp only [List.map_toArray, List.map_cons, List.map_nil]); first | done | rfl | (simp only [List.length_drop, List.length_take]; rfl)) ?_; (with_reducible refine (cmd_Get.calls kj6 t194 t195 _ _ t196 (⟨#[83, 73, 90, 69]⟩ : ByteArray) t201 t202 _ ?side1 ?side2 A24.out).mono ?_); (case side1 => refine (Kd.R_reads' (e := 49) (base := w.heap.size) (ok := fun k_ => True) (n := t196.length) (c := co22) ?_).2.2; exact (by (with_reducible repeat (first | apply Kd.R_alloc | apply Kd.R_drewN | apply Kd.R_drew)); exact (Kd.R_mono (Kd.R_far (p := ⟨gb200, 2, none⟩) (Kd.R_far (p := ⟨gb200, 1, none⟩) (Kd.R_far (p := ⟨gb200, 0, none⟩) (Kd.R_types HO198.out BK200.out (by decide)) (fun _ hk => hk.2) (.int .u8 t194)) (fun _ hk => hk.2) (.string t195)) (fun _ hk => hk.2) (.slice Ao22 t196.length co22)) (fun _ h_ => h_.1)))); (case side2 => exact (Kd.R_reads' HO198.out).2.1); rintro e w29 ⟨rfl, hb⟩; refine ⟨_, rfl, ?_⟩; have n0_ := Aside0.mk (Kd.R_below (by (with_reducible repeat (first | apply Kd.R_alloc | apply Kd.R_drewN | apply Kd.R_drew)); exact (Kd.R_mono (Kd.R_far (p := ⟨gb200, 2, none⟩) (Kd.R_far (p := ⟨gb200, 1, none⟩) (Kd.R_far (p := ⟨gb200, 0, none⟩) (Kd.R_types HO198.out BK200.out (by decide)) (fun _ hk => hk.2) (.int .u8 t194)) (fun _ hk => hk.2) (.string t195)) (fun _ hk => hk.2) (.slice Ao22 t196.length co22)) (fun _ h_ => h_.1))) hb); have n1_ := Aside0.mk (blk_below (g := gb191) (o := .cells #[.bool a1_0, .bool a1_1, .bool a1_2, .bool a1_3, .bool a1_4, .bool a1_5, .int .i64 a1_6] 23 (0, 0)) (by (with_reducible repeat (first | refine blk_drewN ?_ _ | refine blk_drew ?_ | refine blk_alloc ?_ _)); refine blk_far ?_ NB191_200.out _; (with_reducible repeat (first | refine blk_drewN ?_ _ | refine blk_drew ?_ | refine blk_alloc ?_ _)); refine blk_far ?_ NB191_200.out _; (with_reducible repeat (first | refine blk_drewN ?_ _ | refine blk_drew ?_ | refine blk_alloc ?_ _)); refine blk_far ?_ NB191_200.out _; (with_reducible repeat (first | refine blk_drewN ?_ _ | refine blk_drew ?_ | refine blk_alloc ?_ _)); exact BK191.out) hb); have n2_ := Aside0.mk (blk_below (g := gb200) (o := .cells #[.int .u8 t194, .string t195, .slice Ao22 t196.length co22] 27 (0, 0)) (by (with_reducible repeat (first | refine blk_drewN ?_ _ | refine blk_drew ?_ | refine blk_alloc ?_ _)); refine blk_put (cs := #[.int .u8 t194, .string t195, .slice none 0 0]) ?_ 2 _ rfl; (with_reducible repeat (first | refine blk_drewN ?_ _ | refine blk_drew ?_ | refine blk_alloc ?_ _)); refine blk_put (cs := #[.int .u8 t194, .string (⟨#[]⟩ : ByteArray), .slice none 0 0]) ?_ 1 _ rfl; (with_reducible repeat (first | refine blk_drewN ?_ _ | refine blk_drew ?_ | refine blk_alloc ?_ _)); refine blk_put (cs := #[.int .u8 0, .string (⟨#[]⟩ : ByteArray), .slice none 0 0]) ?_ 0 _ rfl; (with_reducible repeat (first | refine blk_drewN ?_ _ | refine blk_drew ?_ | refine blk_alloc ?_ _)); exact BK200.out) hb); have n3_ := Aside0.mk (below_step (by repeat (first | (with_reducible first | exact HB.out | apply below_alloc | apply pw_below_drewN | apply below_drew1 | refine below_set ?_ GE191.out | refine below_set ?_ GE200.out) | exact HB.out)) hb); clear HO198; clear BK191; clear BK200; clear HB; have HO198 := n0_; have BK191 := n1_; have BK200 := n2_; have HB := n3_; clear n0_ n1_ n2_ n3_; (try clear hb); (try clear hb2); (try clear hk); (try clear hi); have hcz30_0 : w29.cell? ⟨gb200, 0, none⟩ = some (.int .u8 t194) := (blk_cell BK200.out 0).trans rfl; have hcz30_1 : w29.cell? ⟨gb200, 1, none⟩ = some (.string t195) := (blk_cell BK200.out 1).trans rfl; have hcz30_2 : w29.cell? ⟨gb200, 2, none⟩ = some (.slice Ao22 t196.length co22) := (blk_cell BK200.out 2).trans rfl; have hfz30_0 := blk_frozen BK200.out 0; have hfz30_1 := blk_frozen BK200.out 1; have hfz30_2 := blk_frozen BK200.out 2) | ((with_reducible refine gate_callee (f := 9) rfl ?_); refine goesL_ (some 57) rfl rfl Tryd.func9 (by kernel_rfl) rfl #[.agg #[.int .u8 t194, .string t195, .slice Ao22 t196.length co22], .string (⟨#[82, 69, 81, 85, 73, 82, 69, 84, 76, 83]⟩ : ByteArray)] rfl (by (try simp only [List.map_toArray, List.map_cons, List.map_nil]); first | done | rfl | (simp only [List.length_drop, List.length_take]; rfl)) ?_; (with_reducible refine (cmd_Get.calls kj6 t194 t195 _ _ t196 (⟨#[82, 69, 81, 85, 73, 82, 69, 84, 76, 83]⟩ : ByteArray) t203 t204 _ ?side1 ?side2 A25.out).mono ?_); (case side1 => repeat (first | exact (Kd.R_reads' HO198.out).2.2 | (with_reducible refine Kd.C_alloc ?_ _) | (with_reducible refine Kd.C_drewN ?_ _) | (with_reducible refine Kd.C_drew ?_))); (case side2 => exact (Kd.R_reads' HO198.out).2.1); rintro e w31 ⟨rfl, hb⟩; refine ⟨_, rfl, ?_⟩; have n0_ := Aside0.mk (Kd.R_below (by (with_reducible repeat (first | apply Kd.R_alloc | apply Kd.R_drewN | apply Kd.R_drew)); exact HO198.out) hb); have n1_ := Aside0.mk (blk_below (g := gb191) (o := .cells #[.bool a1_0, .bool a1_1, .bool a1_2, .bool a1_3, .bool a1_4, .bool a1_5, .int .i64 a1_6] 23 (0, 0)) (by (with_reducible repeat (first | refine blk_drewN ?_ _ | refine blk_drew ?_ | refine blk_alloc ?_ _)); exact BK191.out) hb); have n2_ := Aside0.mk (blk_below (g := gb200) (o := .cells #[.int .u8 t194, .string t195, .slice Ao22 t196.length co22] 27 (0, 0)) (by (with_reducible repeat (first | refine blk_drewN ?_ _ | refine blk_drew ?_ | refine blk_alloc ?_ _)); exact BK200.out) hb); have n3_ := Aside0.mk (below_step (by repeat (first | (with_reducible first | exact HB.out | apply below_alloc | apply pw_below_drewN | apply below_drew1 | refine below_set ?_ GE191.out | refine below_set ?_ GE200.out) | exact HB.out)) hb); clear HO198; clear BK191; clear BK200; clear HB; have HO198 := n0_; have BK191 := n1_; have BK200 := n2_; have HB := n3_; clear n0_ n1_ n2_ n3_; (try clear hb); (try clear hb2); (try clear hk); (try clear hi); have hcz32_0 : w31.cell? ⟨gb200, 0, none⟩ = some (.int .u8 t194) := (blk_cell BK200.out 0).trans rfl; have hcz32_1 : w31.cell? ⟨gb200, 1, none⟩ = some (.string t195) := (blk_cell BK200.out 1).trans rfl; have hcz32_2 : w31.cell? ⟨gb200, 2, none⟩ = some (.slice Ao22 t196.length co22) := (blk_cell BK200.out 2).trans rfl; have hfz32_0 := blk_frozen BK200.out 0; have hfz32_1 := blk_frozen BK200.out 1; have hfz32_2 := blk_frozen BK200.out 2) | ((with_reducible refine gate_callee (f := 9) rfl ?_); refine goesL_ (some 62) rfl rfl Tryd.func9 (by kernel_rfl) rfl #[.agg #[.int .u8 t194, .string t195, .slice Ao22 t196.length co22], .string (⟨#[69, 78, 86, 73, 68]⟩ : ByteArray)] rfl (by (try simp only [List.map_toArray, List.map_cons, List.map_nil]); first | done | rfl | (simp only [List.length_drop, List.length_take]; rfl)) ?_; (with_reducible refine (cmd_Get.calls kj6 t194 t195 _ _ t196 (⟨#[69, 78, 86, 73, 68]⟩ : ByteArray) t205 t206 _ ?side1 ?side2 A26.out).mono ?_); (case side1 => repeat (first | exact (Kd.R_reads' HO198.out).2.2 | (with_reducible refine Kd.C_alloc ?_ _) | (with_reducible refine Kd.C_drewN ?_ _) | (with_reducible refine Kd.C_drew ?_))); (case side2 => exact (Kd.R_reads' HO198.out).2.1); rintro e w33 ⟨rfl, hb⟩; refine ⟨_, rfl, ?_⟩; have n0_ := Aside0.mk (Kd.R_below (by (with_reducible repeat (first | apply Kd.R_alloc | apply Kd.R_drewN | apply Kd.R_drew)); exact HO198.out) hb); have n1_ := Aside0.mk (blk_below (g := gb191) (o := .cells #[.bool a1_0, .bool a1_1, .bool a1_2, .bool a1_3, .bool a1_4, .bool a1_5, .int .i64 a1_6] 23 (0, 0)) (by (with_reducible repeat (first | refine blk_drewN ?_ _ | refine blk_drew ?_ | refine blk_alloc ?_ _)); exact BK191.out) hb); have n2_ := Aside0.mk (blk_below (g := gb200) (o := .cells #[.int .u8 t194, .string t195, .slice Ao22 t196.length co22] 27 (0, 0)) (by (with_reducible repeat (first | refine blk_drewN ?_ _ | refine blk_drew ?_ | refine blk_alloc ?_ _)); exact BK200.out) hb); have n3_ := Aside0.mk (below_step (by repeat (first | (with_reducible first | exact HB.out | apply below_alloc | apply pw_below_drewN | apply below_drew1 | refine below_set ?_ GE191.out | refine below_set ?_ GE200.out) | exact HB.out)) hb); clear HO198; clear BK191; clear BK200; clear HB; have HO198 := n0_; have BK191 := n1_; have BK200 := n2_; have HB := n3_; clear n0_ n1_ n2_ n3_; (try clear hb); (try clear hb2); (try clear hk); (try clear hi)) | ((with_reducible refine gate_dst (N := 68) rfl ?_); (try (refine gate_guard (by rfl) ?_; dsimp only)); refine Kd.R_lit Kd.bool _ 4 ?hg (N := 68) ?hd (xs := ([t202, t204, t206] : List Bool)) (inner := [.bool t202, .bool t204, .bool t206]) (ok := fun _ => True) (okp := fun _ => True) ?hr ?hp (fun _ hk => hk) trivial (Below.refl _ _) (Nat.le_refl _) (by simp) ?_; (case hd => rfl); (case hg => rfl); (case hr => first | (go_simp; done) | (go_simp; rfl)); (case hp => exact (Reps.one (show Kd.M Kd.bool _ _ _ t202 [.bool t202] from rfl) (Reps.one (show Kd.M Kd.bool _ _ _ t204 [.bool t204] from rfl) (Reps.one (show Kd.M Kd.bool _ _ _ t206 [.bool t206] from rfl) (Reps.none _ _))))); intro v208 w34 ho35 hb hg_ hnew_; clear hg_ hnew_; (first | rw [← Ny207.out] at ho35 | (simp only [Int.reduceToNat] at ho35; rw [← Ny207.out] at ho35)); have n0_ := Aside0.mk (Kd.R_below (by (with_reducible repeat (first | apply Kd.R_alloc | apply Kd.R_drewN | apply Kd.R_drew)); exact HO198.out) hb); have n1_ := Aside0.mk (Kd.R_lower ho35 (below_size (by repeat (first | (with_reducible first | exact HB.out | apply below_alloc | apply pw_below_drewN | apply below_drew1 | refine below_set ?_ GE191.out | refine below_set ?_ GE200.out) | exact HB.out)))); have n2_ := Aside0.mk (blk_below (g := gb191) (o := .cells #[.bool a1_0, .bool a1_1, .bool a1_2, .bool a1_3, .bool a1_4, .bool a1_5, .int .i64 a1_6] 23 (0, 0)) (by (with_reducible repeat (first | refine blk_drewN ?_ _ | refine blk_drew ?_ | refine blk_alloc ?_ _)); exact BK191.out) hb); have n3_ := Aside0.mk (blk_below (g := gb200) (o := .cells #[.int .u8 t194, .string t195, .slice Ao22 t196.length co22] 27 (0, 0)) (by (with_reducible repeat (first | refine blk_drewN ?_ _ | refine blk_drew ?_ | refine blk_alloc ?_ _)); exact BK200.out) hb); have n4_ := Aside0.mk (below_step (by repeat (first | (with_reducible first | exact HB.out | apply below_alloc | apply pw_below_drewN | apply below_drew1 | refine below_set ?_ GE191.out | refine below_set ?_ GE200.out) | exact HB.out)) hb); clear HO198; clear BK191; clear BK200; clear HB; have HO198 := n0_; have HO209 := n1_; have BK191 := n2_; have BK200 := n3_; have HB := n4_; clear n0_ n1_ n2_ n3_ n4_; clear hb ho35; obtain ⟨Ao36, co36, eo36⟩ := Kd.R_slice HO209.out; subst eo36))
        go_loopg [21, 70] kj6 (fun kq v21 v70 w' => ∃ (x21_2 : Int) (x70_2 : Int), v21 = .int .i64 x21_2 ∧ v70 = .int .i64 x70_2 ∧ Aside0 (mailroomlaw07_CmdOffers.l0 kq a0 a3 a4 a5 t199 t202 t204 t205 t206 x21_2 y207 (y207.length : Int) x70_2 a1_0 a1_1 a1_2 a1_3 a1_4 a1_5 a1_6 t194 t195 t196 = some r) ∧ Aside0 (kq ≤ kj6) ∧ Aside0 (Kd.R Kd.bool 4 w' w.heap.size (fun _ => True) (.slice Ao36 y207.length co36) y207) ∧ Aside0 (Kd.R k49 49 w' w.heap.size (fun _ => True) (.slice Ao22 t196.length co22) t196) ∧ Aside0 (w'.heap[gb191]? = some (.cells #[.bool a1_0, .bool a1_1, .bool a1_2, .bool a1_3, .bool a1_4, .bool a1_5, .int .i64 a1_6] 23 (0, 0))) ∧ Aside0 (w'.heap[gb200]? = some (.cells #[.int .u8 t194, .string t195, (.slice Ao22 t196.length co22)] 27 (0, 0))) ∧ Aside0 (Below w.heap.size w w'))
        case atStart => exact ⟨(0), (0), (by first | rfl | (simp; done) | (simp [*]; done)), (by first | rfl | (simp; done) | (simp [*]; done)), H', ⟨Nat.le_refl _⟩, ⟨by (with_reducible repeat (first | apply Kd.R_alloc | apply Kd.R_drewN | apply Kd.R_drew)); exact HO209.out⟩, ⟨by (with_reducible repeat (first | apply Kd.R_alloc | apply Kd.R_drewN | apply Kd.R_drew)); exact HO198.out⟩, ⟨by (with_reducible repeat (first | refine blk_drewN ?_ _ | refine blk_drew ?_ | refine blk_alloc ?_ _)); exact BK191.out⟩, ⟨by (with_reducible repeat (first | refine blk_drewN ?_ _ | refine blk_drew ?_ | refine blk_alloc ?_ _)); exact BK200.out⟩, ⟨by repeat (first | (with_reducible first | exact HB.out | apply below_alloc | apply pw_below_drewN | apply below_drew1 | refine below_set ?_ GE191.out | refine below_set ?_ GE200.out) | exact HB.out)⟩⟩
        case round =>
         clear H'
         try clear c1
         try clear c2
         try clear p2
         try clear c3
         try clear p6
         try clear c7
         try clear c8
         try clear c9
         try clear c9b0
         try clear c12
         try clear c20
         try clear c23
         try clear c23b0
         try clear c23b1
         try clear c27
         try clear hcz17_0
         try clear hcz17_1
         try clear hcz17_2
         try clear hcz17_3
         try clear hcz17_4
         try clear hcz17_5
         try clear hcz17_6
         try clear hcz21_0
         try clear hcz21_1
         try clear hcz21_2
         try clear hcz28_0
         try clear hcz28_1
         try clear hcz28_2
         try clear hcz30_0
         try clear hcz30_1
         try clear hcz30_2
         try clear hcz32_0
         try clear hcz32_1
         try clear hcz32_2
         try clear hfz17_0
         try clear hfz17_1
         try clear hfz17_2
         try clear hfz17_3
         try clear hfz17_4
         try clear hfz17_5
         try clear hfz17_6
         try clear hfz21_0
         try clear hfz21_1
         try clear hfz21_2
         try clear hfz28_0
         try clear hfz28_1
         try clear hfz28_2
         try clear hfz30_0
         try clear hfz30_1
         try clear hfz30_2
         try clear hfz32_0
         try clear hfz32_1
         try clear hfz32_2
         try clear p2
         try clear p6
         obtain ⟨x21_2, x70_2, rfl, rfl, HA, HK2, HO_68, HO_201002, BK191, BK200, HB⟩ := hrel
         cases gk with
         | zero => exact absurd HA.out (by simp [mailroomlaw07_CmdOffers.l0])
         | succ k2 =>
          have H := HA.out
          clear HA
          simp only [mailroomlaw07_CmdOffers.l0] at H
          by_cases c37 : x70_2 < (y207.length : Int)
          ·rw [if_pos c37] at H
           have c37b0 : decide (x70_2 < (y207.length : Int)) = true := decide_eq_true c37
           clear c37
           by_cases c38 : 0 ≤ x70_2
           ·rw [if_pos c38] at H
            have c38b0 : decide (0 ≤ x70_2) = true := decide_eq_true c38
            clear c38
            by_cases c39 : x70_2 < (y207.length : Int)
            ·rw [if_pos c39] at H
             have c39b0 : decide (x70_2 < (y207.length : Int)) = true := decide_eq_true c39
             clear c39
             obtain ⟨bq40, hbq40⟩ : ∃ b_ : Bool, b_ = (rdOf false y207 x70_2) := ⟨_, rfl⟩
             replace H : (if bq40 = true then (mailroomlaw07_CmdOffers.l0 k2 a0 a3 a4 a5 t199 t202 t204 t205 t206 (wrap64 (x21_2 + 1)) y207 (y207.length : Int) (wrap64 (x70_2 + 1)) a1_0 a1_1 a1_2 a1_3 a1_4 a1_5 a1_6 t194 t195 t196) else (mailroomlaw07_CmdOffers.l0 k2 a0 a3 a4 a5 t199 t202 t204 t205 t206 x21_2 y207 (y207.length : Int) (wrap64 (x70_2 + 1)) a1_0 a1_1 a1_2 a1_3 a1_4 a1_5 a1_6 t194 t195 t196)) = some r := by rw [← hbq40] at H; exact H
             have Nbq40 := Aside0.mk hbq40
             clear hbq40
             by_cases c41 : bq40 = true
             ·subst c41
              have H1 : (mailroomlaw07_CmdOffers.l0 k2 a0 a3 a4 a5 t199 t202 t204 t205 t206 (wrap64 (x21_2 + 1)) y207 (y207.length : Int) (wrap64 (x70_2 + 1)) a1_0 a1_1 a1_2 a1_3 a1_4 a1_5 a1_6 t194 t195 t196) = some r := by rw [if_pos rfl] at H; exact H
              clear H
              have H := H1
              clear H1
              have H' := Aside0.mk H
              clear H
              have p210 : 0 ≤ (x70_2 : Int) := of_decide_eq_true (by first | (with_reducible assumption) | assumption)
              have q210 : x70_2 < (y207.length : Int) := of_decide_eq_true (by first | (with_reducible assumption) | assumption)
              obtain ⟨ad210, e210, hx210_0⟩ := Kd.at_bool (Kd.R_reads' HO_68.out).2.2 x70_2 p210 q210
              (try rw [← Nbq40.out] at hx210_0)
              cases e210
              replace p210 := eq_true p210
              replace q210 := eq_true q210
              as_aux_lemma =>
               go_wp2
               go_roundg k2
               case measure => have := HJ6.out; have := HK2.out; omega
               case rel => exact ⟨(wrap64 (x21_2 + 1)), (wrap64 (x70_2 + 1)), (by first | rfl | (simp; done) | (simp [*]; done)), (by first | rfl | (simp; done) | (simp [*]; done)), H', ⟨by have := HJ6.out; have := HK2.out; omega⟩, ⟨by (with_reducible repeat (first | apply Kd.R_alloc | apply Kd.R_drewN | apply Kd.R_drew)); exact HO_68.out⟩, ⟨by (with_reducible repeat (first | apply Kd.R_alloc | apply Kd.R_drewN | apply Kd.R_drew)); exact HO_201002.out⟩, ⟨by (with_reducible repeat (first | refine blk_drewN ?_ _ | refine blk_drew ?_ | refine blk_alloc ?_ _)); exact BK191.out⟩, ⟨by (with_reducible repeat (first | refine blk_drewN ?_ _ | refine blk_drew ?_ | refine blk_alloc ?_ _)); exact BK200.out⟩, ⟨by repeat (first | (with_reducible first | exact HB.out | apply below_alloc | apply pw_below_drewN | apply below_drew1 | refine below_set ?_ GE191.out | refine below_set ?_ GE200.out) | exact HB.out)⟩⟩
             ·replace c41 := Bool.eq_false_iff.mpr c41
              subst c41
              have H1 : (mailroomlaw07_CmdOffers.l0 k2 a0 a3 a4 a5 t199 t202 t204 t205 t206 x21_2 y207 (y207.length : Int) (wrap64 (x70_2 + 1)) a1_0 a1_1 a1_2 a1_3 a1_4 a1_5 a1_6 t194 t195 t196) = some r := by rw [if_neg (show ¬ (false = true) by decide)] at H; exact H
              clear H
              have H := H1
              clear H1
              have H' := Aside0.mk H
              clear H
              have p210 : 0 ≤ (x70_2 : Int) := of_decide_eq_true (by first | (with_reducible assumption) | assumption)
              have q210 : x70_2 < (y207.length : Int) := of_decide_eq_true (by first | (with_reducible assumption) | assumption)
              obtain ⟨ad210, e210, hx210_0⟩ := Kd.at_bool (Kd.R_reads' HO_68.out).2.2 x70_2 p210 q210
              (try rw [← Nbq40.out] at hx210_0)
              cases e210
              replace p210 := eq_true p210
              replace q210 := eq_true q210
              as_aux_lemma =>
               go_wp2
               go_roundg k2
               case measure => have := HJ6.out; have := HK2.out; omega
               case rel => exact ⟨(x21_2), (wrap64 (x70_2 + 1)), (by first | rfl | (simp; done) | (simp [*]; done)), (by first | rfl | (simp; done) | (simp [*]; done)), H', ⟨by have := HJ6.out; have := HK2.out; omega⟩, ⟨by (with_reducible repeat (first | apply Kd.R_alloc | apply Kd.R_drewN | apply Kd.R_drew)); exact HO_68.out⟩, ⟨by (with_reducible repeat (first | apply Kd.R_alloc | apply Kd.R_drewN | apply Kd.R_drew)); exact HO_201002.out⟩, ⟨by (with_reducible repeat (first | refine blk_drewN ?_ _ | refine blk_drew ?_ | refine blk_alloc ?_ _)); exact BK191.out⟩, ⟨by (with_reducible repeat (first | refine blk_drewN ?_ _ | refine blk_drew ?_ | refine blk_alloc ?_ _)); exact BK200.out⟩, ⟨by repeat (first | (with_reducible first | exact HB.out | apply below_alloc | apply pw_below_drewN | apply below_drew1 | refine below_set ?_ GE191.out | refine below_set ?_ GE200.out) | exact HB.out)⟩⟩
            ·rw [if_neg c39] at H
             exact absurd H (by simp)
           ·rw [if_neg c38] at H
            exact absurd H (by simp)
          ·rw [if_neg c37] at H
           have c37b0 : decide (x70_2 < (y207.length : Int)) = false := decide_eq_false c37
           clear c37
           by_cases c42 : (t202 != a1_5) = true
           ·rw [if_pos c42] at H
            have c42b0 : (t202 != a1_5) = true := c42
            (try (have c42b1 : decide (t202 = a1_5) = false := by simpa using c42))
            (try (have c42b2 : (t202 == a1_5) = false := by simpa using c42))
            (try (have c42b3 : ¬ (t202 = a1_5) := by simpa using c42))
            clear c42
            exact absurd ((Option.some.inj H).trans hr_.out) (by decide)
           ·rw [if_neg c42] at H
            have c42b0 : (t202 != a1_5) = false := by simpa using c42
            (try (have c42b1 : decide (t202 = a1_5) = true := by simpa using c42))
            (try (have c42b2 : (t202 == a1_5) = true := by simpa using c42))
            clear c42
            by_cases c45 : a1_2 = true
            ·subst c45
             have H1 : (if (t204 != a3) = true then (some false) else (if a1_3 = true then (if (t206 != (!a4.toList.isEmpty)) = true then (some false) else (if t206 = true then (if t205.toList = a4.toList then (if (t196.length : Int) = x21_2 then (if t194 = 3 then (if t195.toList = a0.toList then ((mailroomlaw07_shown.f t194 t195 t196 t199).bind fun t211 => (if t211.toList = ([] : List UInt8) then (some false) else (mailroomlaw07_CmdOffers.j2 k2 a0 a5 a1_0 a1_1 true a1_3 a1_4 a1_5 a1_6))) else (some false)) else (some false)) else (some false)) else (some false)) else (if (t196.length : Int) = x21_2 then (if t194 = 3 then (if t195.toList = a0.toList then ((mailroomlaw07_shown.f t194 t195 t196 t199).bind fun t212 => (if t212.toList = ([] : List UInt8) then (some false) else (mailroomlaw07_CmdOffers.j2 k2 a0 a5 a1_0 a1_1 true a1_3 a1_4 a1_5 a1_6))) else (some false)) else (some false)) else (some false)))) else (if (t206 != false) = true then (some false) else (if t206 = true then (if t205.toList = a4.toList then (if (t196.length : Int) = x21_2 then (if t194 = 3 then (if t195.toList = a0.toList then ((mailroomlaw07_shown.f t194 t195 t196 t199).bind fun t213 => (if t213.toList = ([] : List UInt8) then (some false) else (mailroomlaw07_CmdOffers.j2 k2 a0 a5 a1_0 a1_1 true a1_3 a1_4 a1_5 a1_6))) else (some false)) else (some false)) else (some false)) else (some false)) else (if (t196.length : Int) = x21_2 then (if t194 = 3 then (if t195.toList = a0.toList then ((mailroomlaw07_shown.f t194 t195 t196 t199).bind fun t214 => (if t214.toList = ([] : List UInt8) then (some false) else (mailroomlaw07_CmdOffers.j2 k2 a0 a5 a1_0 a1_1 true a1_3 a1_4 a1_5 a1_6))) else (some false)) else (some false)) else (some false)))))) = some r := by rw [if_pos rfl] at H; exact H
             clear H
             have H := H1
             clear H1
             by_cases c46 : (t204 != a3) = true
             ·rw [if_pos c46] at H
              have c46b0 : (t204 != a3) = true := c46
              (try (have c46b1 : decide (t204 = a3) = false := by simpa using c46))
              (try (have c46b2 : (t204 == a3) = false := by simpa using c46))
              (try (have c46b3 : ¬ (t204 = a3) := by simpa using c46))
              clear c46
              exact absurd ((Option.some.inj H).trans hr_.out) (by decide)
             ·rw [if_neg c46] at H
              have c46b0 : (t204 != a3) = false := by simpa using c46
              (try (have c46b1 : decide (t204 = a3) = true := by simpa using c46))
              (try (have c46b2 : (t204 == a3) = true := by simpa using c46))
              clear c46
              by_cases c49 : a1_3 = true
              ·subst c49
               have H1 : (if (t206 != (!a4.toList.isEmpty)) = true then (some false) else (if t206 = true then (if t205.toList = a4.toList then (if (t196.length : Int) = x21_2 then (if t194 = 3 then (if t195.toList = a0.toList then ((mailroomlaw07_shown.f t194 t195 t196 t199).bind fun t211 => (if t211.toList = ([] : List UInt8) then (some false) else (mailroomlaw07_CmdOffers.j2 k2 a0 a5 a1_0 a1_1 true true a1_4 a1_5 a1_6))) else (some false)) else (some false)) else (some false)) else (some false)) else (if (t196.length : Int) = x21_2 then (if t194 = 3 then (if t195.toList = a0.toList then ((mailroomlaw07_shown.f t194 t195 t196 t199).bind fun t212 => (if t212.toList = ([] : List UInt8) then (some false) else (mailroomlaw07_CmdOffers.j2 k2 a0 a5 a1_0 a1_1 true true a1_4 a1_5 a1_6))) else (some false)) else (some false)) else (some false)))) = some r := by rw [if_pos rfl] at H; exact H
               clear H
               have H := H1
               clear H1
               by_cases c50 : (t206 != (!a4.toList.isEmpty)) = true
               ·rw [if_pos c50] at H
                have c50b0 : (t206 != (!a4.toList.isEmpty)) = true := c50
                (try (have c50b1 : decide (t206 = (!a4.toList.isEmpty)) = false := by simpa using c50))
                (try (have c50b2 : (t206 == (!a4.toList.isEmpty)) = false := by simpa using c50))
                (try (have c50b3 : ¬ (t206 = (!a4.toList.isEmpty)) := by simpa using c50))
                clear c50
                exact absurd ((Option.some.inj H).trans hr_.out) (by decide)
               ·rw [if_neg c50] at H
                have c50b0 : (t206 != (!a4.toList.isEmpty)) = false := by simpa using c50
                (try (have c50b1 : decide (t206 = (!a4.toList.isEmpty)) = true := by simpa using c50))
                (try (have c50b2 : (t206 == (!a4.toList.isEmpty)) = true := by simpa using c50))
                clear c50
                by_cases c53 : t206 = true
                ·subst c53
                 (try simp only [Bool.false_bne, Bool.true_bne, Bool.not_not] at c156b0)
                 (try simp only [Bool.false_bne, Bool.true_bne, Bool.not_not] at c50b0)
                 have H1 : (if t205.toList = a4.toList then (if (t196.length : Int) = x21_2 then (if t194 = 3 then (if t195.toList = a0.toList then ((mailroomlaw07_shown.f t194 t195 t196 t199).bind fun t211 => (if t211.toList = ([] : List UInt8) then (some false) else (mailroomlaw07_CmdOffers.j2 k2 a0 a5 a1_0 a1_1 true true a1_4 a1_5 a1_6))) else (some false)) else (some false)) else (some false)) else (some false)) = some r := by rw [if_pos rfl] at H; exact H
                 clear H
                 have H := H1
                 clear H1
                 by_cases c54 : t205.toList = a4.toList
                 ·rw [if_pos c54] at H
                  have c54b0 : (t205.toList == a4.toList) = true := beq_iff_eq.mpr c54
                  have c54b1 : (t205.toList != a4.toList) = false := bne_eq_false_iff_eq.mpr c54
                  clear c54
                  by_cases c55 : (t196.length : Int) = x21_2
                  ·rw [if_pos c55] at H
                   have c55b0 : ((t196.length : Int) == x21_2) = true := beq_iff_eq.mpr c55
                   have c55b1 : ((t196.length : Int) != x21_2) = false := bne_eq_false_iff_eq.mpr c55
                   clear c55
                   by_cases c56 : t194 = 3
                   ·rw [if_pos c56] at H
                    have c56b0 : (t194 == 3) = true := beq_iff_eq.mpr c56
                    have c56b1 : (t194 != 3) = false := bne_eq_false_iff_eq.mpr c56
                    clear c56
                    by_cases c57 : t195.toList = a0.toList
                    ·rw [if_pos c57] at H
                     have c57b0 : (t195.toList == a0.toList) = true := beq_iff_eq.mpr c57
                     have c57b1 : (t195.toList != a0.toList) = false := bne_eq_false_iff_eq.mpr c57
                     clear c57
                     replace H := Option.bind_eq_some_iff.mp H
                     obtain ⟨t211, A580, H⟩ := H
                     replace H : (if t211.toList = ([] : List UInt8) then (some false) else (mailroomlaw07_CmdOffers.j2 k2 a0 a5 a1_0 a1_1 true true a1_4 a1_5 a1_6)) = some r := H
                     have A58 := Aside0.mk A580
                     clear A580
                     by_cases c59 : t211.toList = ([] : List UInt8)
                     ·rw [if_pos c59] at H
                      have c59b0 : (t211.toList == ([] : List UInt8)) = true := beq_iff_eq.mpr c59
                      have c59b1 : (t211.toList != ([] : List UInt8)) = false := bne_eq_false_iff_eq.mpr c59
                      clear c59
                      exact absurd ((Option.some.inj H).trans hr_.out) (by decide)
                     ·rw [if_neg c59] at H
                      have c59b0 : (t211.toList == ([] : List UInt8)) = false := beq_eq_false_iff_ne.mpr c59
                      have c59b1 : (t211.toList != ([] : List UInt8)) = true := bne_iff_ne.mpr c59
                      have H' := Aside0.mk H
                      clear H
                      have hnb64 := NB191_200.out
                      have hnc64 := NB200_191.out
                      have hcz65_0 : wr.cell? ⟨gb191, 0, none⟩ = some (.bool a1_0) := (blk_cell BK191.out 0).trans rfl
                      have hcz65_1 : wr.cell? ⟨gb191, 1, none⟩ = some (.bool a1_1) := (blk_cell BK191.out 1).trans rfl
                      have hcz65_2 : wr.cell? ⟨gb191, 2, none⟩ = some (.bool true) := (blk_cell BK191.out 2).trans rfl
                      have hcz65_3 : wr.cell? ⟨gb191, 3, none⟩ = some (.bool true) := (blk_cell BK191.out 3).trans rfl
                      have hcz65_4 : wr.cell? ⟨gb191, 4, none⟩ = some (.bool a1_4) := (blk_cell BK191.out 4).trans rfl
                      have hcz65_5 : wr.cell? ⟨gb191, 5, none⟩ = some (.bool a1_5) := (blk_cell BK191.out 5).trans rfl
                      have hcz65_6 : wr.cell? ⟨gb191, 6, none⟩ = some (.int .i64 a1_6) := (blk_cell BK191.out 6).trans rfl
                      have hfz65_0 := blk_frozen BK191.out 0
                      have hfz65_1 := blk_frozen BK191.out 1
                      have hfz65_2 := blk_frozen BK191.out 2
                      have hfz65_3 := blk_frozen BK191.out 3
                      have hfz65_4 := blk_frozen BK191.out 4
                      have hfz65_5 := blk_frozen BK191.out 5
                      have hfz65_6 := blk_frozen BK191.out 6
                      have hcz66_0 : wr.cell? ⟨gb200, 0, none⟩ = some (.int .u8 t194) := (blk_cell BK200.out 0).trans rfl
                      have hcz66_1 : wr.cell? ⟨gb200, 1, none⟩ = some (.string t195) := (blk_cell BK200.out 1).trans rfl
                      have hcz66_2 : wr.cell? ⟨gb200, 2, none⟩ = some (.slice Ao22 t196.length co22) := (blk_cell BK200.out 2).trans rfl
                      have hfz66_0 := blk_frozen BK200.out 0
                      have hfz66_1 := blk_frozen BK200.out 1
                      have hfz66_2 := blk_frozen BK200.out 2
                      as_aux_lemma =>
                       go_wp2_with (first | (go_at_call 10; (with_reducible refine (mailroomlaw07_shown.calls t194 t195 _ _ t196 t199 t211 _ ?side1 ?side2 A58.out).mono ?_); (case side1 => repeat (first | exact (Kd.R_reads' HO_201002.out).2.2 | (with_reducible refine Kd.C_alloc ?_ _) | (with_reducible refine Kd.C_drewN ?_ _) | (with_reducible refine Kd.C_drew ?_))); (case side2 => exact (Kd.R_reads' HO_201002.out).2.1); rintro e w67 ⟨rfl, hb⟩; have n0_ := Aside0.mk (Kd.R_below (by (with_reducible repeat (first | apply Kd.R_alloc | apply Kd.R_drewN | apply Kd.R_drew)); exact HO_68.out) hb); have n1_ := Aside0.mk (Kd.R_below (by (with_reducible repeat (first | apply Kd.R_alloc | apply Kd.R_drewN | apply Kd.R_drew)); exact HO_201002.out) hb); have n2_ := Aside0.mk (blk_below (g := gb191) (o := .cells #[.bool a1_0, .bool a1_1, .bool true, .bool true, .bool a1_4, .bool a1_5, .int .i64 a1_6] 23 (0, 0)) (by (with_reducible repeat (first | refine blk_drewN ?_ _ | refine blk_drew ?_ | refine blk_alloc ?_ _)); exact BK191.out) hb); have n3_ := Aside0.mk (blk_below (g := gb200) (o := .cells #[.int .u8 t194, .string t195, .slice Ao22 t196.length co22] 27 (0, 0)) (by (with_reducible repeat (first | refine blk_drewN ?_ _ | refine blk_drew ?_ | refine blk_alloc ?_ _)); exact BK200.out) hb); have n4_ := Aside0.mk (below_step (by repeat (first | (with_reducible first | exact HB.out | apply below_alloc | apply pw_below_drewN | apply below_drew1 | refine below_set ?_ GE191.out | refine below_set ?_ GE200.out) | exact HB.out)) hb); clear HO_68; clear HO_201002; clear BK191; clear BK200; clear HB; have HO_68 := n0_; have HO_201002 := n1_; have BK191 := n2_; have BK200 := n3_; have HB := n4_; clear n0_ n1_ n2_ n3_ n4_; (try clear hb); (try clear hb2); (try clear hk); (try clear hi)))
                       go_meet
                       case rel => exact ⟨_, H', ⟨by have := HJ6.out; have := HK2.out; first | omega | exact Nat.le_refl _⟩, ⟨by (with_reducible repeat (first | apply Kd.R_alloc | apply Kd.R_drewN | apply Kd.R_drew)); exact HO_201002.out⟩, ⟨by (with_reducible repeat (first | refine blk_drewN ?_ _ | refine blk_drew ?_ | refine blk_alloc ?_ _)); exact BK191.out⟩, ⟨by (with_reducible repeat (first | refine blk_drewN ?_ _ | refine blk_drew ?_ | refine blk_alloc ?_ _)); exact BK200.out⟩, ⟨by repeat (first | (with_reducible first | exact HB.out | apply below_alloc | apply pw_below_drewN | apply below_drew1 | refine below_set ?_ GE191.out | refine below_set ?_ GE200.out) | exact HB.out)⟩⟩
                    ·rw [if_neg c57] at H
                     have c57b0 : (t195.toList == a0.toList) = false := beq_eq_false_iff_ne.mpr c57
                     have c57b1 : (t195.toList != a0.toList) = true := bne_iff_ne.mpr c57
                     exact absurd ((Option.some.inj H).trans hr_.out) (by decide)
                   ·rw [if_neg c56] at H
                    have c56b0 : (t194 == 3) = false := beq_eq_false_iff_ne.mpr c56
                    have c56b1 : (t194 != 3) = true := bne_iff_ne.mpr c56
                    exact absurd ((Option.some.inj H).trans hr_.out) (by decide)
                  ·rw [if_neg c55] at H
                   have c55b0 : ((t196.length : Int) == x21_2) = false := beq_eq_false_iff_ne.mpr c55
                   have c55b1 : ((t196.length : Int) != x21_2) = true := bne_iff_ne.mpr c55
                   exact absurd ((Option.some.inj H).trans hr_.out) (by decide)
                 ·rw [if_neg c54] at H
                  have c54b0 : (t205.toList == a4.toList) = false := beq_eq_false_iff_ne.mpr c54
                  have c54b1 : (t205.toList != a4.toList) = true := bne_iff_ne.mpr c54
                  exact absurd ((Option.some.inj H).trans hr_.out) (by decide)
                ·replace c53 := Bool.eq_false_iff.mpr c53
                 subst c53
                 (try simp only [Bool.false_bne, Bool.true_bne, Bool.not_not] at c156b0)
                 (try simp only [Bool.false_bne, Bool.true_bne, Bool.not_not] at c50b0)
                 have H1 : (if (t196.length : Int) = x21_2 then (if t194 = 3 then (if t195.toList = a0.toList then ((mailroomlaw07_shown.f t194 t195 t196 t199).bind fun t212 => (if t212.toList = ([] : List UInt8) then (some false) else (mailroomlaw07_CmdOffers.j2 k2 a0 a5 a1_0 a1_1 true true a1_4 a1_5 a1_6))) else (some false)) else (some false)) else (some false)) = some r := by rw [if_neg (show ¬ (false = true) by decide)] at H; exact H
                 clear H
                 have H := H1
                 clear H1
                 by_cases c79 : (t196.length : Int) = x21_2
                 ·rw [if_pos c79] at H
                  have c79b0 : ((t196.length : Int) == x21_2) = true := beq_iff_eq.mpr c79
                  have c79b1 : ((t196.length : Int) != x21_2) = false := bne_eq_false_iff_eq.mpr c79
                  clear c79
                  by_cases c80 : t194 = 3
                  ·rw [if_pos c80] at H
                   have c80b0 : (t194 == 3) = true := beq_iff_eq.mpr c80
                   have c80b1 : (t194 != 3) = false := bne_eq_false_iff_eq.mpr c80
                   clear c80
                   by_cases c81 : t195.toList = a0.toList
                   ·rw [if_pos c81] at H
                    have c81b0 : (t195.toList == a0.toList) = true := beq_iff_eq.mpr c81
                    have c81b1 : (t195.toList != a0.toList) = false := bne_eq_false_iff_eq.mpr c81
                    clear c81
                    replace H := Option.bind_eq_some_iff.mp H
                    obtain ⟨t212, A820, H⟩ := H
                    replace H : (if t212.toList = ([] : List UInt8) then (some false) else (mailroomlaw07_CmdOffers.j2 k2 a0 a5 a1_0 a1_1 true true a1_4 a1_5 a1_6)) = some r := H
                    have A82 := Aside0.mk A820
                    clear A820
                    by_cases c83 : t212.toList = ([] : List UInt8)
                    ·rw [if_pos c83] at H
                     have c83b0 : (t212.toList == ([] : List UInt8)) = true := beq_iff_eq.mpr c83
                     have c83b1 : (t212.toList != ([] : List UInt8)) = false := bne_eq_false_iff_eq.mpr c83
                     clear c83
                     exact absurd ((Option.some.inj H).trans hr_.out) (by decide)
                    ·rw [if_neg c83] at H
                     have c83b0 : (t212.toList == ([] : List UInt8)) = false := beq_eq_false_iff_ne.mpr c83
                     have c83b1 : (t212.toList != ([] : List UInt8)) = true := bne_iff_ne.mpr c83
                     have H' := Aside0.mk H
                     clear H
                     have hnb88 := NB191_200.out
                     have hnc88 := NB200_191.out
                     have hcz89_0 : wr.cell? ⟨gb191, 0, none⟩ = some (.bool a1_0) := (blk_cell BK191.out 0).trans rfl
                     have hcz89_1 : wr.cell? ⟨gb191, 1, none⟩ = some (.bool a1_1) := (blk_cell BK191.out 1).trans rfl
                     have hcz89_2 : wr.cell? ⟨gb191, 2, none⟩ = some (.bool true) := (blk_cell BK191.out 2).trans rfl
                     have hcz89_3 : wr.cell? ⟨gb191, 3, none⟩ = some (.bool true) := (blk_cell BK191.out 3).trans rfl
                     have hcz89_4 : wr.cell? ⟨gb191, 4, none⟩ = some (.bool a1_4) := (blk_cell BK191.out 4).trans rfl
                     have hcz89_5 : wr.cell? ⟨gb191, 5, none⟩ = some (.bool a1_5) := (blk_cell BK191.out 5).trans rfl
                     have hcz89_6 : wr.cell? ⟨gb191, 6, none⟩ = some (.int .i64 a1_6) := (blk_cell BK191.out 6).trans rfl
                     have hfz89_0 := blk_frozen BK191.out 0
                     have hfz89_1 := blk_frozen BK191.out 1
                     have hfz89_2 := blk_frozen BK191.out 2
                     have hfz89_3 := blk_frozen BK191.out 3
                     have hfz89_4 := blk_frozen BK191.out 4
                     have hfz89_5 := blk_frozen BK191.out 5
                     have hfz89_6 := blk_frozen BK191.out 6
                     have hcz90_0 : wr.cell? ⟨gb200, 0, none⟩ = some (.int .u8 t194) := (blk_cell BK200.out 0).trans rfl
                     have hcz90_1 : wr.cell? ⟨gb200, 1, none⟩ = some (.string t195) := (blk_cell BK200.out 1).trans rfl
                     have hcz90_2 : wr.cell? ⟨gb200, 2, none⟩ = some (.slice Ao22 t196.length co22) := (blk_cell BK200.out 2).trans rfl
                     have hfz90_0 := blk_frozen BK200.out 0
                     have hfz90_1 := blk_frozen BK200.out 1
                     have hfz90_2 := blk_frozen BK200.out 2
                     as_aux_lemma =>
                      go_wp2_with (first | (go_at_call 10; (with_reducible refine (mailroomlaw07_shown.calls t194 t195 _ _ t196 t199 t212 _ ?side1 ?side2 A82.out).mono ?_); (case side1 => repeat (first | exact (Kd.R_reads' HO_201002.out).2.2 | (with_reducible refine Kd.C_alloc ?_ _) | (with_reducible refine Kd.C_drewN ?_ _) | (with_reducible refine Kd.C_drew ?_))); (case side2 => exact (Kd.R_reads' HO_201002.out).2.1); rintro e w91 ⟨rfl, hb⟩; have n0_ := Aside0.mk (Kd.R_below (by (with_reducible repeat (first | apply Kd.R_alloc | apply Kd.R_drewN | apply Kd.R_drew)); exact HO_68.out) hb); have n1_ := Aside0.mk (Kd.R_below (by (with_reducible repeat (first | apply Kd.R_alloc | apply Kd.R_drewN | apply Kd.R_drew)); exact HO_201002.out) hb); have n2_ := Aside0.mk (blk_below (g := gb191) (o := .cells #[.bool a1_0, .bool a1_1, .bool true, .bool true, .bool a1_4, .bool a1_5, .int .i64 a1_6] 23 (0, 0)) (by (with_reducible repeat (first | refine blk_drewN ?_ _ | refine blk_drew ?_ | refine blk_alloc ?_ _)); exact BK191.out) hb); have n3_ := Aside0.mk (blk_below (g := gb200) (o := .cells #[.int .u8 t194, .string t195, .slice Ao22 t196.length co22] 27 (0, 0)) (by (with_reducible repeat (first | refine blk_drewN ?_ _ | refine blk_drew ?_ | refine blk_alloc ?_ _)); exact BK200.out) hb); have n4_ := Aside0.mk (below_step (by repeat (first | (with_reducible first | exact HB.out | apply below_alloc | apply pw_below_drewN | apply below_drew1 | refine below_set ?_ GE191.out | refine below_set ?_ GE200.out) | exact HB.out)) hb); clear HO_68; clear HO_201002; clear BK191; clear BK200; clear HB; have HO_68 := n0_; have HO_201002 := n1_; have BK191 := n2_; have BK200 := n3_; have HB := n4_; clear n0_ n1_ n2_ n3_ n4_; (try clear hb); (try clear hb2); (try clear hk); (try clear hi)))
                      go_meet
                      case rel => exact ⟨_, H', ⟨by have := HJ6.out; have := HK2.out; first | omega | exact Nat.le_refl _⟩, ⟨by (with_reducible repeat (first | apply Kd.R_alloc | apply Kd.R_drewN | apply Kd.R_drew)); exact HO_201002.out⟩, ⟨by (with_reducible repeat (first | refine blk_drewN ?_ _ | refine blk_drew ?_ | refine blk_alloc ?_ _)); exact BK191.out⟩, ⟨by (with_reducible repeat (first | refine blk_drewN ?_ _ | refine blk_drew ?_ | refine blk_alloc ?_ _)); exact BK200.out⟩, ⟨by repeat (first | (with_reducible first | exact HB.out | apply below_alloc | apply pw_below_drewN | apply below_drew1 | refine below_set ?_ GE191.out | refine below_set ?_ GE200.out) | exact HB.out)⟩⟩
                   ·rw [if_neg c81] at H
                    have c81b0 : (t195.toList == a0.toList) = false := beq_eq_false_iff_ne.mpr c81
                    have c81b1 : (t195.toList != a0.toList) = true := bne_iff_ne.mpr c81
                    exact absurd ((Option.some.inj H).trans hr_.out) (by decide)
                  ·rw [if_neg c80] at H
                   have c80b0 : (t194 == 3) = false := beq_eq_false_iff_ne.mpr c80
                   have c80b1 : (t194 != 3) = true := bne_iff_ne.mpr c80
                   exact absurd ((Option.some.inj H).trans hr_.out) (by decide)
                 ·rw [if_neg c79] at H
                  have c79b0 : ((t196.length : Int) == x21_2) = false := beq_eq_false_iff_ne.mpr c79
                  have c79b1 : ((t196.length : Int) != x21_2) = true := bne_iff_ne.mpr c79
                  exact absurd ((Option.some.inj H).trans hr_.out) (by decide)
              ·replace c49 := Bool.eq_false_iff.mpr c49
               subst c49
               have H1 : (if (t206 != false) = true then (some false) else (if t206 = true then (if t205.toList = a4.toList then (if (t196.length : Int) = x21_2 then (if t194 = 3 then (if t195.toList = a0.toList then ((mailroomlaw07_shown.f t194 t195 t196 t199).bind fun t213 => (if t213.toList = ([] : List UInt8) then (some false) else (mailroomlaw07_CmdOffers.j2 k2 a0 a5 a1_0 a1_1 true false a1_4 a1_5 a1_6))) else (some false)) else (some false)) else (some false)) else (some false)) else (if (t196.length : Int) = x21_2 then (if t194 = 3 then (if t195.toList = a0.toList then ((mailroomlaw07_shown.f t194 t195 t196 t199).bind fun t214 => (if t214.toList = ([] : List UInt8) then (some false) else (mailroomlaw07_CmdOffers.j2 k2 a0 a5 a1_0 a1_1 true false a1_4 a1_5 a1_6))) else (some false)) else (some false)) else (some false)))) = some r := by rw [if_neg (show ¬ (false = true) by decide)] at H; exact H
               clear H
               have H := H1
               clear H1
               by_cases c101 : (t206 != false) = true
               ·rw [if_pos c101] at H
                have c101b0 : (t206 != false) = true := c101
                (try (have c101b1 : decide (t206 = false) = false := by simpa using c101))
                (try (have c101b2 : (t206 == false) = false := by simpa using c101))
                (try (have c101b3 : ¬ (t206 = false) := by simpa using c101))
                clear c101
                exact absurd ((Option.some.inj H).trans hr_.out) (by decide)
               ·rw [if_neg c101] at H
                have c101b0 : (t206 != false) = false := by simpa using c101
                (try (have c101b1 : decide (t206 = false) = true := by simpa using c101))
                (try (have c101b2 : (t206 == false) = true := by simpa using c101))
                clear c101
                by_cases c104 : t206 = true
                ·subst c104
                 (try simp only [Bool.false_bne, Bool.true_bne, Bool.not_not] at c156b0)
                 (try simp only [Bool.false_bne, Bool.true_bne, Bool.not_not] at c50b0)
                 have H1 : (if t205.toList = a4.toList then (if (t196.length : Int) = x21_2 then (if t194 = 3 then (if t195.toList = a0.toList then ((mailroomlaw07_shown.f t194 t195 t196 t199).bind fun t213 => (if t213.toList = ([] : List UInt8) then (some false) else (mailroomlaw07_CmdOffers.j2 k2 a0 a5 a1_0 a1_1 true false a1_4 a1_5 a1_6))) else (some false)) else (some false)) else (some false)) else (some false)) = some r := by rw [if_pos rfl] at H; exact H
                 clear H
                 have H := H1
                 clear H1
                 by_cases c105 : t205.toList = a4.toList
                 ·rw [if_pos c105] at H
                  have c105b0 : (t205.toList == a4.toList) = true := beq_iff_eq.mpr c105
                  have c105b1 : (t205.toList != a4.toList) = false := bne_eq_false_iff_eq.mpr c105
                  clear c105
                  by_cases c106 : (t196.length : Int) = x21_2
                  ·rw [if_pos c106] at H
                   have c106b0 : ((t196.length : Int) == x21_2) = true := beq_iff_eq.mpr c106
                   have c106b1 : ((t196.length : Int) != x21_2) = false := bne_eq_false_iff_eq.mpr c106
                   clear c106
                   by_cases c107 : t194 = 3
                   ·rw [if_pos c107] at H
                    have c107b0 : (t194 == 3) = true := beq_iff_eq.mpr c107
                    have c107b1 : (t194 != 3) = false := bne_eq_false_iff_eq.mpr c107
                    clear c107
                    by_cases c108 : t195.toList = a0.toList
                    ·rw [if_pos c108] at H
                     have c108b0 : (t195.toList == a0.toList) = true := beq_iff_eq.mpr c108
                     have c108b1 : (t195.toList != a0.toList) = false := bne_eq_false_iff_eq.mpr c108
                     clear c108
                     replace H := Option.bind_eq_some_iff.mp H
                     obtain ⟨t213, A1090, H⟩ := H
                     replace H : (if t213.toList = ([] : List UInt8) then (some false) else (mailroomlaw07_CmdOffers.j2 k2 a0 a5 a1_0 a1_1 true false a1_4 a1_5 a1_6)) = some r := H
                     have A109 := Aside0.mk A1090
                     clear A1090
                     by_cases c110 : t213.toList = ([] : List UInt8)
                     ·rw [if_pos c110] at H
                      have c110b0 : (t213.toList == ([] : List UInt8)) = true := beq_iff_eq.mpr c110
                      have c110b1 : (t213.toList != ([] : List UInt8)) = false := bne_eq_false_iff_eq.mpr c110
                      clear c110
                      exact absurd ((Option.some.inj H).trans hr_.out) (by decide)
                     ·rw [if_neg c110] at H
                      have c110b0 : (t213.toList == ([] : List UInt8)) = false := beq_eq_false_iff_ne.mpr c110
                      have c110b1 : (t213.toList != ([] : List UInt8)) = true := bne_iff_ne.mpr c110
                      have H' := Aside0.mk H
                      clear H
                      have hnb115 := NB191_200.out
                      have hnc115 := NB200_191.out
                      have hcz116_0 : wr.cell? ⟨gb191, 0, none⟩ = some (.bool a1_0) := (blk_cell BK191.out 0).trans rfl
                      have hcz116_1 : wr.cell? ⟨gb191, 1, none⟩ = some (.bool a1_1) := (blk_cell BK191.out 1).trans rfl
                      have hcz116_2 : wr.cell? ⟨gb191, 2, none⟩ = some (.bool true) := (blk_cell BK191.out 2).trans rfl
                      have hcz116_3 : wr.cell? ⟨gb191, 3, none⟩ = some (.bool false) := (blk_cell BK191.out 3).trans rfl
                      have hcz116_4 : wr.cell? ⟨gb191, 4, none⟩ = some (.bool a1_4) := (blk_cell BK191.out 4).trans rfl
                      have hcz116_5 : wr.cell? ⟨gb191, 5, none⟩ = some (.bool a1_5) := (blk_cell BK191.out 5).trans rfl
                      have hcz116_6 : wr.cell? ⟨gb191, 6, none⟩ = some (.int .i64 a1_6) := (blk_cell BK191.out 6).trans rfl
                      have hfz116_0 := blk_frozen BK191.out 0
                      have hfz116_1 := blk_frozen BK191.out 1
                      have hfz116_2 := blk_frozen BK191.out 2
                      have hfz116_3 := blk_frozen BK191.out 3
                      have hfz116_4 := blk_frozen BK191.out 4
                      have hfz116_5 := blk_frozen BK191.out 5
                      have hfz116_6 := blk_frozen BK191.out 6
                      have hcz117_0 : wr.cell? ⟨gb200, 0, none⟩ = some (.int .u8 t194) := (blk_cell BK200.out 0).trans rfl
                      have hcz117_1 : wr.cell? ⟨gb200, 1, none⟩ = some (.string t195) := (blk_cell BK200.out 1).trans rfl
                      have hcz117_2 : wr.cell? ⟨gb200, 2, none⟩ = some (.slice Ao22 t196.length co22) := (blk_cell BK200.out 2).trans rfl
                      have hfz117_0 := blk_frozen BK200.out 0
                      have hfz117_1 := blk_frozen BK200.out 1
                      have hfz117_2 := blk_frozen BK200.out 2
                      as_aux_lemma =>
                       go_wp2_with (first | (go_at_call 10; (with_reducible refine (mailroomlaw07_shown.calls t194 t195 _ _ t196 t199 t213 _ ?side1 ?side2 A109.out).mono ?_); (case side1 => repeat (first | exact (Kd.R_reads' HO_201002.out).2.2 | (with_reducible refine Kd.C_alloc ?_ _) | (with_reducible refine Kd.C_drewN ?_ _) | (with_reducible refine Kd.C_drew ?_))); (case side2 => exact (Kd.R_reads' HO_201002.out).2.1); rintro e w118 ⟨rfl, hb⟩; have n0_ := Aside0.mk (Kd.R_below (by (with_reducible repeat (first | apply Kd.R_alloc | apply Kd.R_drewN | apply Kd.R_drew)); exact HO_68.out) hb); have n1_ := Aside0.mk (Kd.R_below (by (with_reducible repeat (first | apply Kd.R_alloc | apply Kd.R_drewN | apply Kd.R_drew)); exact HO_201002.out) hb); have n2_ := Aside0.mk (blk_below (g := gb191) (o := .cells #[.bool a1_0, .bool a1_1, .bool true, .bool false, .bool a1_4, .bool a1_5, .int .i64 a1_6] 23 (0, 0)) (by (with_reducible repeat (first | refine blk_drewN ?_ _ | refine blk_drew ?_ | refine blk_alloc ?_ _)); exact BK191.out) hb); have n3_ := Aside0.mk (blk_below (g := gb200) (o := .cells #[.int .u8 t194, .string t195, .slice Ao22 t196.length co22] 27 (0, 0)) (by (with_reducible repeat (first | refine blk_drewN ?_ _ | refine blk_drew ?_ | refine blk_alloc ?_ _)); exact BK200.out) hb); have n4_ := Aside0.mk (below_step (by repeat (first | (with_reducible first | exact HB.out | apply below_alloc | apply pw_below_drewN | apply below_drew1 | refine below_set ?_ GE191.out | refine below_set ?_ GE200.out) | exact HB.out)) hb); clear HO_68; clear HO_201002; clear BK191; clear BK200; clear HB; have HO_68 := n0_; have HO_201002 := n1_; have BK191 := n2_; have BK200 := n3_; have HB := n4_; clear n0_ n1_ n2_ n3_ n4_; (try clear hb); (try clear hb2); (try clear hk); (try clear hi)))
                       go_meet
                       case rel => exact ⟨_, H', ⟨by have := HJ6.out; have := HK2.out; first | omega | exact Nat.le_refl _⟩, ⟨by (with_reducible repeat (first | apply Kd.R_alloc | apply Kd.R_drewN | apply Kd.R_drew)); exact HO_201002.out⟩, ⟨by (with_reducible repeat (first | refine blk_drewN ?_ _ | refine blk_drew ?_ | refine blk_alloc ?_ _)); exact BK191.out⟩, ⟨by (with_reducible repeat (first | refine blk_drewN ?_ _ | refine blk_drew ?_ | refine blk_alloc ?_ _)); exact BK200.out⟩, ⟨by repeat (first | (with_reducible first | exact HB.out | apply below_alloc | apply pw_below_drewN | apply below_drew1 | refine below_set ?_ GE191.out | refine below_set ?_ GE200.out) | exact HB.out)⟩⟩
                    ·rw [if_neg c108] at H
                     have c108b0 : (t195.toList == a0.toList) = false := beq_eq_false_iff_ne.mpr c108
                     have c108b1 : (t195.toList != a0.toList) = true := bne_iff_ne.mpr c108
                     exact absurd ((Option.some.inj H).trans hr_.out) (by decide)
                   ·rw [if_neg c107] at H
                    have c107b0 : (t194 == 3) = false := beq_eq_false_iff_ne.mpr c107
                    have c107b1 : (t194 != 3) = true := bne_iff_ne.mpr c107
                    exact absurd ((Option.some.inj H).trans hr_.out) (by decide)
                  ·rw [if_neg c106] at H
                   have c106b0 : ((t196.length : Int) == x21_2) = false := beq_eq_false_iff_ne.mpr c106
                   have c106b1 : ((t196.length : Int) != x21_2) = true := bne_iff_ne.mpr c106
                   exact absurd ((Option.some.inj H).trans hr_.out) (by decide)
                 ·rw [if_neg c105] at H
                  have c105b0 : (t205.toList == a4.toList) = false := beq_eq_false_iff_ne.mpr c105
                  have c105b1 : (t205.toList != a4.toList) = true := bne_iff_ne.mpr c105
                  exact absurd ((Option.some.inj H).trans hr_.out) (by decide)
                ·replace c104 := Bool.eq_false_iff.mpr c104
                 subst c104
                 (try simp only [Bool.false_bne, Bool.true_bne, Bool.not_not] at c156b0)
                 (try simp only [Bool.false_bne, Bool.true_bne, Bool.not_not] at c50b0)
                 have H1 : (if (t196.length : Int) = x21_2 then (if t194 = 3 then (if t195.toList = a0.toList then ((mailroomlaw07_shown.f t194 t195 t196 t199).bind fun t214 => (if t214.toList = ([] : List UInt8) then (some false) else (mailroomlaw07_CmdOffers.j2 k2 a0 a5 a1_0 a1_1 true false a1_4 a1_5 a1_6))) else (some false)) else (some false)) else (some false)) = some r := by rw [if_neg (show ¬ (false = true) by decide)] at H; exact H
                 clear H
                 have H := H1
                 clear H1
                 by_cases c130 : (t196.length : Int) = x21_2
                 ·rw [if_pos c130] at H
                  have c130b0 : ((t196.length : Int) == x21_2) = true := beq_iff_eq.mpr c130
                  have c130b1 : ((t196.length : Int) != x21_2) = false := bne_eq_false_iff_eq.mpr c130
                  clear c130
                  by_cases c131 : t194 = 3
                  ·rw [if_pos c131] at H
                   have c131b0 : (t194 == 3) = true := beq_iff_eq.mpr c131
                   have c131b1 : (t194 != 3) = false := bne_eq_false_iff_eq.mpr c131
                   clear c131
                   by_cases c132 : t195.toList = a0.toList
                   ·rw [if_pos c132] at H
                    have c132b0 : (t195.toList == a0.toList) = true := beq_iff_eq.mpr c132
                    have c132b1 : (t195.toList != a0.toList) = false := bne_eq_false_iff_eq.mpr c132
                    clear c132
                    replace H := Option.bind_eq_some_iff.mp H
                    obtain ⟨t214, A1330, H⟩ := H
                    replace H : (if t214.toList = ([] : List UInt8) then (some false) else (mailroomlaw07_CmdOffers.j2 k2 a0 a5 a1_0 a1_1 true false a1_4 a1_5 a1_6)) = some r := H
                    have A133 := Aside0.mk A1330
                    clear A1330
                    by_cases c134 : t214.toList = ([] : List UInt8)
                    ·rw [if_pos c134] at H
                     have c134b0 : (t214.toList == ([] : List UInt8)) = true := beq_iff_eq.mpr c134
                     have c134b1 : (t214.toList != ([] : List UInt8)) = false := bne_eq_false_iff_eq.mpr c134
                     clear c134
                     exact absurd ((Option.some.inj H).trans hr_.out) (by decide)
                    ·rw [if_neg c134] at H
                     have c134b0 : (t214.toList == ([] : List UInt8)) = false := beq_eq_false_iff_ne.mpr c134
                     have c134b1 : (t214.toList != ([] : List UInt8)) = true := bne_iff_ne.mpr c134
                     have H' := Aside0.mk H
                     clear H
                     have hnb139 := NB191_200.out
                     have hnc139 := NB200_191.out
                     have hcz140_0 : wr.cell? ⟨gb191, 0, none⟩ = some (.bool a1_0) := (blk_cell BK191.out 0).trans rfl
                     have hcz140_1 : wr.cell? ⟨gb191, 1, none⟩ = some (.bool a1_1) := (blk_cell BK191.out 1).trans rfl
                     have hcz140_2 : wr.cell? ⟨gb191, 2, none⟩ = some (.bool true) := (blk_cell BK191.out 2).trans rfl
                     have hcz140_3 : wr.cell? ⟨gb191, 3, none⟩ = some (.bool false) := (blk_cell BK191.out 3).trans rfl
                     have hcz140_4 : wr.cell? ⟨gb191, 4, none⟩ = some (.bool a1_4) := (blk_cell BK191.out 4).trans rfl
                     have hcz140_5 : wr.cell? ⟨gb191, 5, none⟩ = some (.bool a1_5) := (blk_cell BK191.out 5).trans rfl
                     have hcz140_6 : wr.cell? ⟨gb191, 6, none⟩ = some (.int .i64 a1_6) := (blk_cell BK191.out 6).trans rfl
                     have hfz140_0 := blk_frozen BK191.out 0
                     have hfz140_1 := blk_frozen BK191.out 1
                     have hfz140_2 := blk_frozen BK191.out 2
                     have hfz140_3 := blk_frozen BK191.out 3
                     have hfz140_4 := blk_frozen BK191.out 4
                     have hfz140_5 := blk_frozen BK191.out 5
                     have hfz140_6 := blk_frozen BK191.out 6
                     have hcz141_0 : wr.cell? ⟨gb200, 0, none⟩ = some (.int .u8 t194) := (blk_cell BK200.out 0).trans rfl
                     have hcz141_1 : wr.cell? ⟨gb200, 1, none⟩ = some (.string t195) := (blk_cell BK200.out 1).trans rfl
                     have hcz141_2 : wr.cell? ⟨gb200, 2, none⟩ = some (.slice Ao22 t196.length co22) := (blk_cell BK200.out 2).trans rfl
                     have hfz141_0 := blk_frozen BK200.out 0
                     have hfz141_1 := blk_frozen BK200.out 1
                     have hfz141_2 := blk_frozen BK200.out 2
                     as_aux_lemma =>
                      go_wp2_with (first | (go_at_call 10; (with_reducible refine (mailroomlaw07_shown.calls t194 t195 _ _ t196 t199 t214 _ ?side1 ?side2 A133.out).mono ?_); (case side1 => repeat (first | exact (Kd.R_reads' HO_201002.out).2.2 | (with_reducible refine Kd.C_alloc ?_ _) | (with_reducible refine Kd.C_drewN ?_ _) | (with_reducible refine Kd.C_drew ?_))); (case side2 => exact (Kd.R_reads' HO_201002.out).2.1); rintro e w142 ⟨rfl, hb⟩; have n0_ := Aside0.mk (Kd.R_below (by (with_reducible repeat (first | apply Kd.R_alloc | apply Kd.R_drewN | apply Kd.R_drew)); exact HO_68.out) hb); have n1_ := Aside0.mk (Kd.R_below (by (with_reducible repeat (first | apply Kd.R_alloc | apply Kd.R_drewN | apply Kd.R_drew)); exact HO_201002.out) hb); have n2_ := Aside0.mk (blk_below (g := gb191) (o := .cells #[.bool a1_0, .bool a1_1, .bool true, .bool false, .bool a1_4, .bool a1_5, .int .i64 a1_6] 23 (0, 0)) (by (with_reducible repeat (first | refine blk_drewN ?_ _ | refine blk_drew ?_ | refine blk_alloc ?_ _)); exact BK191.out) hb); have n3_ := Aside0.mk (blk_below (g := gb200) (o := .cells #[.int .u8 t194, .string t195, .slice Ao22 t196.length co22] 27 (0, 0)) (by (with_reducible repeat (first | refine blk_drewN ?_ _ | refine blk_drew ?_ | refine blk_alloc ?_ _)); exact BK200.out) hb); have n4_ := Aside0.mk (below_step (by repeat (first | (with_reducible first | exact HB.out | apply below_alloc | apply pw_below_drewN | apply below_drew1 | refine below_set ?_ GE191.out | refine below_set ?_ GE200.out) | exact HB.out)) hb); clear HO_68; clear HO_201002; clear BK191; clear BK200; clear HB; have HO_68 := n0_; have HO_201002 := n1_; have BK191 := n2_; have BK200 := n3_; have HB := n4_; clear n0_ n1_ n2_ n3_ n4_; (try clear hb); (try clear hb2); (try clear hk); (try clear hi)))
                      go_meet
                      case rel => exact ⟨_, H', ⟨by have := HJ6.out; have := HK2.out; first | omega | exact Nat.le_refl _⟩, ⟨by (with_reducible repeat (first | apply Kd.R_alloc | apply Kd.R_drewN | apply Kd.R_drew)); exact HO_201002.out⟩, ⟨by (with_reducible repeat (first | refine blk_drewN ?_ _ | refine blk_drew ?_ | refine blk_alloc ?_ _)); exact BK191.out⟩, ⟨by (with_reducible repeat (first | refine blk_drewN ?_ _ | refine blk_drew ?_ | refine blk_alloc ?_ _)); exact BK200.out⟩, ⟨by repeat (first | (with_reducible first | exact HB.out | apply below_alloc | apply pw_below_drewN | apply below_drew1 | refine below_set ?_ GE191.out | refine below_set ?_ GE200.out) | exact HB.out)⟩⟩
                   ·rw [if_neg c132] at H
                    have c132b0 : (t195.toList == a0.toList) = false := beq_eq_false_iff_ne.mpr c132
                    have c132b1 : (t195.toList != a0.toList) = true := bne_iff_ne.mpr c132
                    exact absurd ((Option.some.inj H).trans hr_.out) (by decide)
                  ·rw [if_neg c131] at H
                   have c131b0 : (t194 == 3) = false := beq_eq_false_iff_ne.mpr c131
                   have c131b1 : (t194 != 3) = true := bne_iff_ne.mpr c131
                   exact absurd ((Option.some.inj H).trans hr_.out) (by decide)
                 ·rw [if_neg c130] at H
                  have c130b0 : ((t196.length : Int) == x21_2) = false := beq_eq_false_iff_ne.mpr c130
                  have c130b1 : ((t196.length : Int) != x21_2) = true := bne_iff_ne.mpr c130
                  exact absurd ((Option.some.inj H).trans hr_.out) (by decide)
            ·replace c45 := Bool.eq_false_iff.mpr c45
             subst c45
             have H1 : (if (t204 != false) = true then (some false) else (if a1_3 = true then (if (t206 != (!a4.toList.isEmpty)) = true then (some false) else (if t206 = true then (if t205.toList = a4.toList then (if (t196.length : Int) = x21_2 then (if t194 = 3 then (if t195.toList = a0.toList then ((mailroomlaw07_shown.f t194 t195 t196 t199).bind fun t215 => (if t215.toList = ([] : List UInt8) then (some false) else (mailroomlaw07_CmdOffers.j2 k2 a0 a5 a1_0 a1_1 false a1_3 a1_4 a1_5 a1_6))) else (some false)) else (some false)) else (some false)) else (some false)) else (if (t196.length : Int) = x21_2 then (if t194 = 3 then (if t195.toList = a0.toList then ((mailroomlaw07_shown.f t194 t195 t196 t199).bind fun t216 => (if t216.toList = ([] : List UInt8) then (some false) else (mailroomlaw07_CmdOffers.j2 k2 a0 a5 a1_0 a1_1 false a1_3 a1_4 a1_5 a1_6))) else (some false)) else (some false)) else (some false)))) else (if (t206 != false) = true then (some false) else (if t206 = true then (if t205.toList = a4.toList then (if (t196.length : Int) = x21_2 then (if t194 = 3 then (if t195.toList = a0.toList then ((mailroomlaw07_shown.f t194 t195 t196 t199).bind fun t217 => (if t217.toList = ([] : List UInt8) then (some false) else (mailroomlaw07_CmdOffers.j2 k2 a0 a5 a1_0 a1_1 false a1_3 a1_4 a1_5 a1_6))) else (some false)) else (some false)) else (some false)) else (some false)) else (if (t196.length : Int) = x21_2 then (if t194 = 3 then (if t195.toList = a0.toList then ((mailroomlaw07_shown.f t194 t195 t196 t199).bind fun t218 => (if t218.toList = ([] : List UInt8) then (some false) else (mailroomlaw07_CmdOffers.j2 k2 a0 a5 a1_0 a1_1 false a1_3 a1_4 a1_5 a1_6))) else (some false)) else (some false)) else (some false)))))) = some r := by rw [if_neg (show ¬ (false = true) by decide)] at H; exact H
             clear H
             have H := H1
             clear H1
             by_cases c152 : (t204 != false) = true
             ·rw [if_pos c152] at H
              have c152b0 : (t204 != false) = true := c152
              (try (have c152b1 : decide (t204 = false) = false := by simpa using c152))
              (try (have c152b2 : (t204 == false) = false := by simpa using c152))
              (try (have c152b3 : ¬ (t204 = false) := by simpa using c152))
              clear c152
              exact absurd ((Option.some.inj H).trans hr_.out) (by decide)
             ·rw [if_neg c152] at H
              have c152b0 : (t204 != false) = false := by simpa using c152
              (try (have c152b1 : decide (t204 = false) = true := by simpa using c152))
              (try (have c152b2 : (t204 == false) = true := by simpa using c152))
              clear c152
              by_cases c155 : a1_3 = true
              ·subst c155
               have H1 : (if (t206 != (!a4.toList.isEmpty)) = true then (some false) else (if t206 = true then (if t205.toList = a4.toList then (if (t196.length : Int) = x21_2 then (if t194 = 3 then (if t195.toList = a0.toList then ((mailroomlaw07_shown.f t194 t195 t196 t199).bind fun t215 => (if t215.toList = ([] : List UInt8) then (some false) else (mailroomlaw07_CmdOffers.j2 k2 a0 a5 a1_0 a1_1 false true a1_4 a1_5 a1_6))) else (some false)) else (some false)) else (some false)) else (some false)) else (if (t196.length : Int) = x21_2 then (if t194 = 3 then (if t195.toList = a0.toList then ((mailroomlaw07_shown.f t194 t195 t196 t199).bind fun t216 => (if t216.toList = ([] : List UInt8) then (some false) else (mailroomlaw07_CmdOffers.j2 k2 a0 a5 a1_0 a1_1 false true a1_4 a1_5 a1_6))) else (some false)) else (some false)) else (some false)))) = some r := by rw [if_pos rfl] at H; exact H
               clear H
               have H := H1
               clear H1
               by_cases c156 : (t206 != (!a4.toList.isEmpty)) = true
               ·rw [if_pos c156] at H
                have c156b0 : (t206 != (!a4.toList.isEmpty)) = true := c156
                (try (have c156b1 : decide (t206 = (!a4.toList.isEmpty)) = false := by simpa using c156))
                (try (have c156b2 : (t206 == (!a4.toList.isEmpty)) = false := by simpa using c156))
                (try (have c156b3 : ¬ (t206 = (!a4.toList.isEmpty)) := by simpa using c156))
                clear c156
                exact absurd ((Option.some.inj H).trans hr_.out) (by decide)
               ·rw [if_neg c156] at H
                have c156b0 : (t206 != (!a4.toList.isEmpty)) = false := by simpa using c156
                (try (have c156b1 : decide (t206 = (!a4.toList.isEmpty)) = true := by simpa using c156))
                (try (have c156b2 : (t206 == (!a4.toList.isEmpty)) = true := by simpa using c156))
                clear c156
                by_cases c159 : t206 = true
                ·subst c159
                 (try simp only [Bool.false_bne, Bool.true_bne, Bool.not_not] at c156b0)
                 (try simp only [Bool.false_bne, Bool.true_bne, Bool.not_not] at c50b0)
                 have H1 : (if t205.toList = a4.toList then (if (t196.length : Int) = x21_2 then (if t194 = 3 then (if t195.toList = a0.toList then ((mailroomlaw07_shown.f t194 t195 t196 t199).bind fun t215 => (if t215.toList = ([] : List UInt8) then (some false) else (mailroomlaw07_CmdOffers.j2 k2 a0 a5 a1_0 a1_1 false true a1_4 a1_5 a1_6))) else (some false)) else (some false)) else (some false)) else (some false)) = some r := by rw [if_pos rfl] at H; exact H
                 clear H
                 have H := H1
                 clear H1
                 by_cases c160 : t205.toList = a4.toList
                 ·rw [if_pos c160] at H
                  have c160b0 : (t205.toList == a4.toList) = true := beq_iff_eq.mpr c160
                  have c160b1 : (t205.toList != a4.toList) = false := bne_eq_false_iff_eq.mpr c160
                  clear c160
                  by_cases c161 : (t196.length : Int) = x21_2
                  ·rw [if_pos c161] at H
                   have c161b0 : ((t196.length : Int) == x21_2) = true := beq_iff_eq.mpr c161
                   have c161b1 : ((t196.length : Int) != x21_2) = false := bne_eq_false_iff_eq.mpr c161
                   clear c161
                   by_cases c162 : t194 = 3
                   ·rw [if_pos c162] at H
                    have c162b0 : (t194 == 3) = true := beq_iff_eq.mpr c162
                    have c162b1 : (t194 != 3) = false := bne_eq_false_iff_eq.mpr c162
                    clear c162
                    by_cases c163 : t195.toList = a0.toList
                    ·rw [if_pos c163] at H
                     have c163b0 : (t195.toList == a0.toList) = true := beq_iff_eq.mpr c163
                     have c163b1 : (t195.toList != a0.toList) = false := bne_eq_false_iff_eq.mpr c163
                     clear c163
                     replace H := Option.bind_eq_some_iff.mp H
                     obtain ⟨t215, A1640, H⟩ := H
                     replace H : (if t215.toList = ([] : List UInt8) then (some false) else (mailroomlaw07_CmdOffers.j2 k2 a0 a5 a1_0 a1_1 false true a1_4 a1_5 a1_6)) = some r := H
                     have A164 := Aside0.mk A1640
                     clear A1640
                     by_cases c165 : t215.toList = ([] : List UInt8)
                     ·rw [if_pos c165] at H
                      have c165b0 : (t215.toList == ([] : List UInt8)) = true := beq_iff_eq.mpr c165
                      have c165b1 : (t215.toList != ([] : List UInt8)) = false := bne_eq_false_iff_eq.mpr c165
                      clear c165
                      exact absurd ((Option.some.inj H).trans hr_.out) (by decide)
                     ·rw [if_neg c165] at H
                      have c165b0 : (t215.toList == ([] : List UInt8)) = false := beq_eq_false_iff_ne.mpr c165
                      have c165b1 : (t215.toList != ([] : List UInt8)) = true := bne_iff_ne.mpr c165
                      have H' := Aside0.mk H
                      clear H
                      have hnb170 := NB191_200.out
                      have hnc170 := NB200_191.out
                      have hcz171_0 : wr.cell? ⟨gb191, 0, none⟩ = some (.bool a1_0) := (blk_cell BK191.out 0).trans rfl
                      have hcz171_1 : wr.cell? ⟨gb191, 1, none⟩ = some (.bool a1_1) := (blk_cell BK191.out 1).trans rfl
                      have hcz171_2 : wr.cell? ⟨gb191, 2, none⟩ = some (.bool false) := (blk_cell BK191.out 2).trans rfl
                      have hcz171_3 : wr.cell? ⟨gb191, 3, none⟩ = some (.bool true) := (blk_cell BK191.out 3).trans rfl
                      have hcz171_4 : wr.cell? ⟨gb191, 4, none⟩ = some (.bool a1_4) := (blk_cell BK191.out 4).trans rfl
                      have hcz171_5 : wr.cell? ⟨gb191, 5, none⟩ = some (.bool a1_5) := (blk_cell BK191.out 5).trans rfl
                      have hcz171_6 : wr.cell? ⟨gb191, 6, none⟩ = some (.int .i64 a1_6) := (blk_cell BK191.out 6).trans rfl
                      have hfz171_0 := blk_frozen BK191.out 0
                      have hfz171_1 := blk_frozen BK191.out 1
                      have hfz171_2 := blk_frozen BK191.out 2
                      have hfz171_3 := blk_frozen BK191.out 3
                      have hfz171_4 := blk_frozen BK191.out 4
                      have hfz171_5 := blk_frozen BK191.out 5
                      have hfz171_6 := blk_frozen BK191.out 6
                      have hcz172_0 : wr.cell? ⟨gb200, 0, none⟩ = some (.int .u8 t194) := (blk_cell BK200.out 0).trans rfl
                      have hcz172_1 : wr.cell? ⟨gb200, 1, none⟩ = some (.string t195) := (blk_cell BK200.out 1).trans rfl
                      have hcz172_2 : wr.cell? ⟨gb200, 2, none⟩ = some (.slice Ao22 t196.length co22) := (blk_cell BK200.out 2).trans rfl
                      have hfz172_0 := blk_frozen BK200.out 0
                      have hfz172_1 := blk_frozen BK200.out 1
                      have hfz172_2 := blk_frozen BK200.out 2
                      as_aux_lemma =>
                       go_wp2_with (first | (go_at_call 10; (with_reducible refine (mailroomlaw07_shown.calls t194 t195 _ _ t196 t199 t215 _ ?side1 ?side2 A164.out).mono ?_); (case side1 => repeat (first | exact (Kd.R_reads' HO_201002.out).2.2 | (with_reducible refine Kd.C_alloc ?_ _) | (with_reducible refine Kd.C_drewN ?_ _) | (with_reducible refine Kd.C_drew ?_))); (case side2 => exact (Kd.R_reads' HO_201002.out).2.1); rintro e w173 ⟨rfl, hb⟩; have n0_ := Aside0.mk (Kd.R_below (by (with_reducible repeat (first | apply Kd.R_alloc | apply Kd.R_drewN | apply Kd.R_drew)); exact HO_68.out) hb); have n1_ := Aside0.mk (Kd.R_below (by (with_reducible repeat (first | apply Kd.R_alloc | apply Kd.R_drewN | apply Kd.R_drew)); exact HO_201002.out) hb); have n2_ := Aside0.mk (blk_below (g := gb191) (o := .cells #[.bool a1_0, .bool a1_1, .bool false, .bool true, .bool a1_4, .bool a1_5, .int .i64 a1_6] 23 (0, 0)) (by (with_reducible repeat (first | refine blk_drewN ?_ _ | refine blk_drew ?_ | refine blk_alloc ?_ _)); exact BK191.out) hb); have n3_ := Aside0.mk (blk_below (g := gb200) (o := .cells #[.int .u8 t194, .string t195, .slice Ao22 t196.length co22] 27 (0, 0)) (by (with_reducible repeat (first | refine blk_drewN ?_ _ | refine blk_drew ?_ | refine blk_alloc ?_ _)); exact BK200.out) hb); have n4_ := Aside0.mk (below_step (by repeat (first | (with_reducible first | exact HB.out | apply below_alloc | apply pw_below_drewN | apply below_drew1 | refine below_set ?_ GE191.out | refine below_set ?_ GE200.out) | exact HB.out)) hb); clear HO_68; clear HO_201002; clear BK191; clear BK200; clear HB; have HO_68 := n0_; have HO_201002 := n1_; have BK191 := n2_; have BK200 := n3_; have HB := n4_; clear n0_ n1_ n2_ n3_ n4_; (try clear hb); (try clear hb2); (try clear hk); (try clear hi)))
                       go_meet
                       case rel => exact ⟨_, H', ⟨by have := HJ6.out; have := HK2.out; first | omega | exact Nat.le_refl _⟩, ⟨by (with_reducible repeat (first | apply Kd.R_alloc | apply Kd.R_drewN | apply Kd.R_drew)); exact HO_201002.out⟩, ⟨by (with_reducible repeat (first | refine blk_drewN ?_ _ | refine blk_drew ?_ | refine blk_alloc ?_ _)); exact BK191.out⟩, ⟨by (with_reducible repeat (first | refine blk_drewN ?_ _ | refine blk_drew ?_ | refine blk_alloc ?_ _)); exact BK200.out⟩, ⟨by repeat (first | (with_reducible first | exact HB.out | apply below_alloc | apply pw_below_drewN | apply below_drew1 | refine below_set ?_ GE191.out | refine below_set ?_ GE200.out) | exact HB.out)⟩⟩
                    ·rw [if_neg c163] at H
                     have c163b0 : (t195.toList == a0.toList) = false := beq_eq_false_iff_ne.mpr c163
                     have c163b1 : (t195.toList != a0.toList) = true := bne_iff_ne.mpr c163
                     exact absurd ((Option.some.inj H).trans hr_.out) (by decide)
                   ·rw [if_neg c162] at H
                    have c162b0 : (t194 == 3) = false := beq_eq_false_iff_ne.mpr c162
                    have c162b1 : (t194 != 3) = true := bne_iff_ne.mpr c162
                    exact absurd ((Option.some.inj H).trans hr_.out) (by decide)
                  ·rw [if_neg c161] at H
                   have c161b0 : ((t196.length : Int) == x21_2) = false := beq_eq_false_iff_ne.mpr c161
                   have c161b1 : ((t196.length : Int) != x21_2) = true := bne_iff_ne.mpr c161
                   exact absurd ((Option.some.inj H).trans hr_.out) (by decide)
                 ·rw [if_neg c160] at H
                  have c160b0 : (t205.toList == a4.toList) = false := beq_eq_false_iff_ne.mpr c160
                  have c160b1 : (t205.toList != a4.toList) = true := bne_iff_ne.mpr c160
                  exact absurd ((Option.some.inj H).trans hr_.out) (by decide)
                ·replace c159 := Bool.eq_false_iff.mpr c159
                 subst c159
                 (try simp only [Bool.false_bne, Bool.true_bne, Bool.not_not] at c156b0)
                 (try simp only [Bool.false_bne, Bool.true_bne, Bool.not_not] at c50b0)
                 have H1 : (if (t196.length : Int) = x21_2 then (if t194 = 3 then (if t195.toList = a0.toList then ((mailroomlaw07_shown.f t194 t195 t196 t199).bind fun t216 => (if t216.toList = ([] : List UInt8) then (some false) else (mailroomlaw07_CmdOffers.j2 k2 a0 a5 a1_0 a1_1 false true a1_4 a1_5 a1_6))) else (some false)) else (some false)) else (some false)) = some r := by rw [if_neg (show ¬ (false = true) by decide)] at H; exact H
                 clear H
                 have H := H1
                 clear H1
                 by_cases c185 : (t196.length : Int) = x21_2
                 ·rw [if_pos c185] at H
                  have c185b0 : ((t196.length : Int) == x21_2) = true := beq_iff_eq.mpr c185
                  have c185b1 : ((t196.length : Int) != x21_2) = false := bne_eq_false_iff_eq.mpr c185
                  clear c185
                  by_cases c186 : t194 = 3
                  ·rw [if_pos c186] at H
                   have c186b0 : (t194 == 3) = true := beq_iff_eq.mpr c186
                   have c186b1 : (t194 != 3) = false := bne_eq_false_iff_eq.mpr c186
                   clear c186
                   by_cases c187 : t195.toList = a0.toList
                   ·rw [if_pos c187] at H
                    have c187b0 : (t195.toList == a0.toList) = true := beq_iff_eq.mpr c187
                    have c187b1 : (t195.toList != a0.toList) = false := bne_eq_false_iff_eq.mpr c187
                    clear c187
                    replace H := Option.bind_eq_some_iff.mp H
                    obtain ⟨t216, A1880, H⟩ := H
                    replace H : (if t216.toList = ([] : List UInt8) then (some false) else (mailroomlaw07_CmdOffers.j2 k2 a0 a5 a1_0 a1_1 false true a1_4 a1_5 a1_6)) = some r := H
                    have A188 := Aside0.mk A1880
                    clear A1880
                    by_cases c189 : t216.toList = ([] : List UInt8)
                    ·rw [if_pos c189] at H
                     have c189b0 : (t216.toList == ([] : List UInt8)) = true := beq_iff_eq.mpr c189
                     have c189b1 : (t216.toList != ([] : List UInt8)) = false := bne_eq_false_iff_eq.mpr c189
                     clear c189
                     exact absurd ((Option.some.inj H).trans hr_.out) (by decide)
                    ·rw [if_neg c189] at H
                     have c189b0 : (t216.toList == ([] : List UInt8)) = false := beq_eq_false_iff_ne.mpr c189
                     have c189b1 : (t216.toList != ([] : List UInt8)) = true := bne_iff_ne.mpr c189
                     have H' := Aside0.mk H
                     clear H
                     have hnb194 := NB191_200.out
                     have hnc194 := NB200_191.out
                     have hcz195_0 : wr.cell? ⟨gb191, 0, none⟩ = some (.bool a1_0) := (blk_cell BK191.out 0).trans rfl
                     have hcz195_1 : wr.cell? ⟨gb191, 1, none⟩ = some (.bool a1_1) := (blk_cell BK191.out 1).trans rfl
                     have hcz195_2 : wr.cell? ⟨gb191, 2, none⟩ = some (.bool false) := (blk_cell BK191.out 2).trans rfl
                     have hcz195_3 : wr.cell? ⟨gb191, 3, none⟩ = some (.bool true) := (blk_cell BK191.out 3).trans rfl
                     have hcz195_4 : wr.cell? ⟨gb191, 4, none⟩ = some (.bool a1_4) := (blk_cell BK191.out 4).trans rfl
                     have hcz195_5 : wr.cell? ⟨gb191, 5, none⟩ = some (.bool a1_5) := (blk_cell BK191.out 5).trans rfl
                     have hcz195_6 : wr.cell? ⟨gb191, 6, none⟩ = some (.int .i64 a1_6) := (blk_cell BK191.out 6).trans rfl
                     have hfz195_0 := blk_frozen BK191.out 0
                     have hfz195_1 := blk_frozen BK191.out 1
                     have hfz195_2 := blk_frozen BK191.out 2
                     have hfz195_3 := blk_frozen BK191.out 3
                     have hfz195_4 := blk_frozen BK191.out 4
                     have hfz195_5 := blk_frozen BK191.out 5
                     have hfz195_6 := blk_frozen BK191.out 6
                     have hcz196_0 : wr.cell? ⟨gb200, 0, none⟩ = some (.int .u8 t194) := (blk_cell BK200.out 0).trans rfl
                     have hcz196_1 : wr.cell? ⟨gb200, 1, none⟩ = some (.string t195) := (blk_cell BK200.out 1).trans rfl
                     have hcz196_2 : wr.cell? ⟨gb200, 2, none⟩ = some (.slice Ao22 t196.length co22) := (blk_cell BK200.out 2).trans rfl
                     have hfz196_0 := blk_frozen BK200.out 0
                     have hfz196_1 := blk_frozen BK200.out 1
                     have hfz196_2 := blk_frozen BK200.out 2
                     as_aux_lemma =>
                      go_wp2_with (first | (go_at_call 10; (with_reducible refine (mailroomlaw07_shown.calls t194 t195 _ _ t196 t199 t216 _ ?side1 ?side2 A188.out).mono ?_); (case side1 => repeat (first | exact (Kd.R_reads' HO_201002.out).2.2 | (with_reducible refine Kd.C_alloc ?_ _) | (with_reducible refine Kd.C_drewN ?_ _) | (with_reducible refine Kd.C_drew ?_))); (case side2 => exact (Kd.R_reads' HO_201002.out).2.1); rintro e w197 ⟨rfl, hb⟩; have n0_ := Aside0.mk (Kd.R_below (by (with_reducible repeat (first | apply Kd.R_alloc | apply Kd.R_drewN | apply Kd.R_drew)); exact HO_68.out) hb); have n1_ := Aside0.mk (Kd.R_below (by (with_reducible repeat (first | apply Kd.R_alloc | apply Kd.R_drewN | apply Kd.R_drew)); exact HO_201002.out) hb); have n2_ := Aside0.mk (blk_below (g := gb191) (o := .cells #[.bool a1_0, .bool a1_1, .bool false, .bool true, .bool a1_4, .bool a1_5, .int .i64 a1_6] 23 (0, 0)) (by (with_reducible repeat (first | refine blk_drewN ?_ _ | refine blk_drew ?_ | refine blk_alloc ?_ _)); exact BK191.out) hb); have n3_ := Aside0.mk (blk_below (g := gb200) (o := .cells #[.int .u8 t194, .string t195, .slice Ao22 t196.length co22] 27 (0, 0)) (by (with_reducible repeat (first | refine blk_drewN ?_ _ | refine blk_drew ?_ | refine blk_alloc ?_ _)); exact BK200.out) hb); have n4_ := Aside0.mk (below_step (by repeat (first | (with_reducible first | exact HB.out | apply below_alloc | apply pw_below_drewN | apply below_drew1 | refine below_set ?_ GE191.out | refine below_set ?_ GE200.out) | exact HB.out)) hb); clear HO_68; clear HO_201002; clear BK191; clear BK200; clear HB; have HO_68 := n0_; have HO_201002 := n1_; have BK191 := n2_; have BK200 := n3_; have HB := n4_; clear n0_ n1_ n2_ n3_ n4_; (try clear hb); (try clear hb2); (try clear hk); (try clear hi)))
                      go_meet
                      case rel => exact ⟨_, H', ⟨by have := HJ6.out; have := HK2.out; first | omega | exact Nat.le_refl _⟩, ⟨by (with_reducible repeat (first | apply Kd.R_alloc | apply Kd.R_drewN | apply Kd.R_drew)); exact HO_201002.out⟩, ⟨by (with_reducible repeat (first | refine blk_drewN ?_ _ | refine blk_drew ?_ | refine blk_alloc ?_ _)); exact BK191.out⟩, ⟨by (with_reducible repeat (first | refine blk_drewN ?_ _ | refine blk_drew ?_ | refine blk_alloc ?_ _)); exact BK200.out⟩, ⟨by repeat (first | (with_reducible first | exact HB.out | apply below_alloc | apply pw_below_drewN | apply below_drew1 | refine below_set ?_ GE191.out | refine below_set ?_ GE200.out) | exact HB.out)⟩⟩
                   ·rw [if_neg c187] at H
                    have c187b0 : (t195.toList == a0.toList) = false := beq_eq_false_iff_ne.mpr c187
                    have c187b1 : (t195.toList != a0.toList) = true := bne_iff_ne.mpr c187
                    exact absurd ((Option.some.inj H).trans hr_.out) (by decide)
                  ·rw [if_neg c186] at H
                   have c186b0 : (t194 == 3) = false := beq_eq_false_iff_ne.mpr c186
                   have c186b1 : (t194 != 3) = true := bne_iff_ne.mpr c186
                   exact absurd ((Option.some.inj H).trans hr_.out) (by decide)
                 ·rw [if_neg c185] at H
                  have c185b0 : ((t196.length : Int) == x21_2) = false := beq_eq_false_iff_ne.mpr c185
                  have c185b1 : ((t196.length : Int) != x21_2) = true := bne_iff_ne.mpr c185
                  exact absurd ((Option.some.inj H).trans hr_.out) (by decide)
              ·replace c155 := Bool.eq_false_iff.mpr c155
               subst c155
               have H1 : (if (t206 != false) = true then (some false) else (if t206 = true then (if t205.toList = a4.toList then (if (t196.length : Int) = x21_2 then (if t194 = 3 then (if t195.toList = a0.toList then ((mailroomlaw07_shown.f t194 t195 t196 t199).bind fun t217 => (if t217.toList = ([] : List UInt8) then (some false) else (mailroomlaw07_CmdOffers.j2 k2 a0 a5 a1_0 a1_1 false false a1_4 a1_5 a1_6))) else (some false)) else (some false)) else (some false)) else (some false)) else (if (t196.length : Int) = x21_2 then (if t194 = 3 then (if t195.toList = a0.toList then ((mailroomlaw07_shown.f t194 t195 t196 t199).bind fun t218 => (if t218.toList = ([] : List UInt8) then (some false) else (mailroomlaw07_CmdOffers.j2 k2 a0 a5 a1_0 a1_1 false false a1_4 a1_5 a1_6))) else (some false)) else (some false)) else (some false)))) = some r := by rw [if_neg (show ¬ (false = true) by decide)] at H; exact H
               clear H
               have H := H1
               clear H1
               by_cases c207 : (t206 != false) = true
               ·rw [if_pos c207] at H
                have c207b0 : (t206 != false) = true := c207
                (try (have c207b1 : decide (t206 = false) = false := by simpa using c207))
                (try (have c207b2 : (t206 == false) = false := by simpa using c207))
                (try (have c207b3 : ¬ (t206 = false) := by simpa using c207))
                clear c207
                exact absurd ((Option.some.inj H).trans hr_.out) (by decide)
               ·rw [if_neg c207] at H
                have c207b0 : (t206 != false) = false := by simpa using c207
                (try (have c207b1 : decide (t206 = false) = true := by simpa using c207))
                (try (have c207b2 : (t206 == false) = true := by simpa using c207))
                clear c207
                by_cases c210 : t206 = true
                ·subst c210
                 (try simp only [Bool.false_bne, Bool.true_bne, Bool.not_not] at c156b0)
                 (try simp only [Bool.false_bne, Bool.true_bne, Bool.not_not] at c50b0)
                 have H1 : (if t205.toList = a4.toList then (if (t196.length : Int) = x21_2 then (if t194 = 3 then (if t195.toList = a0.toList then ((mailroomlaw07_shown.f t194 t195 t196 t199).bind fun t217 => (if t217.toList = ([] : List UInt8) then (some false) else (mailroomlaw07_CmdOffers.j2 k2 a0 a5 a1_0 a1_1 false false a1_4 a1_5 a1_6))) else (some false)) else (some false)) else (some false)) else (some false)) = some r := by rw [if_pos rfl] at H; exact H
                 clear H
                 have H := H1
                 clear H1
                 by_cases c211 : t205.toList = a4.toList
                 ·rw [if_pos c211] at H
                  have c211b0 : (t205.toList == a4.toList) = true := beq_iff_eq.mpr c211
                  have c211b1 : (t205.toList != a4.toList) = false := bne_eq_false_iff_eq.mpr c211
                  clear c211
                  by_cases c212 : (t196.length : Int) = x21_2
                  ·rw [if_pos c212] at H
                   have c212b0 : ((t196.length : Int) == x21_2) = true := beq_iff_eq.mpr c212
                   have c212b1 : ((t196.length : Int) != x21_2) = false := bne_eq_false_iff_eq.mpr c212
                   clear c212
                   by_cases c213 : t194 = 3
                   ·rw [if_pos c213] at H
                    have c213b0 : (t194 == 3) = true := beq_iff_eq.mpr c213
                    have c213b1 : (t194 != 3) = false := bne_eq_false_iff_eq.mpr c213
                    clear c213
                    by_cases c214 : t195.toList = a0.toList
                    ·rw [if_pos c214] at H
                     have c214b0 : (t195.toList == a0.toList) = true := beq_iff_eq.mpr c214
                     have c214b1 : (t195.toList != a0.toList) = false := bne_eq_false_iff_eq.mpr c214
                     clear c214
                     replace H := Option.bind_eq_some_iff.mp H
                     obtain ⟨t217, A2150, H⟩ := H
                     replace H : (if t217.toList = ([] : List UInt8) then (some false) else (mailroomlaw07_CmdOffers.j2 k2 a0 a5 a1_0 a1_1 false false a1_4 a1_5 a1_6)) = some r := H
                     have A215 := Aside0.mk A2150
                     clear A2150
                     by_cases c216 : t217.toList = ([] : List UInt8)
                     ·rw [if_pos c216] at H
                      have c216b0 : (t217.toList == ([] : List UInt8)) = true := beq_iff_eq.mpr c216
                      have c216b1 : (t217.toList != ([] : List UInt8)) = false := bne_eq_false_iff_eq.mpr c216
                      clear c216
                      exact absurd ((Option.some.inj H).trans hr_.out) (by decide)
                     ·rw [if_neg c216] at H
                      have c216b0 : (t217.toList == ([] : List UInt8)) = false := beq_eq_false_iff_ne.mpr c216
                      have c216b1 : (t217.toList != ([] : List UInt8)) = true := bne_iff_ne.mpr c216
                      have H' := Aside0.mk H
                      clear H
                      have hnb221 := NB191_200.out
                      have hnc221 := NB200_191.out
                      have hcz222_0 : wr.cell? ⟨gb191, 0, none⟩ = some (.bool a1_0) := (blk_cell BK191.out 0).trans rfl
                      have hcz222_1 : wr.cell? ⟨gb191, 1, none⟩ = some (.bool a1_1) := (blk_cell BK191.out 1).trans rfl
                      have hcz222_2 : wr.cell? ⟨gb191, 2, none⟩ = some (.bool false) := (blk_cell BK191.out 2).trans rfl
                      have hcz222_3 : wr.cell? ⟨gb191, 3, none⟩ = some (.bool false) := (blk_cell BK191.out 3).trans rfl
                      have hcz222_4 : wr.cell? ⟨gb191, 4, none⟩ = some (.bool a1_4) := (blk_cell BK191.out 4).trans rfl
                      have hcz222_5 : wr.cell? ⟨gb191, 5, none⟩ = some (.bool a1_5) := (blk_cell BK191.out 5).trans rfl
                      have hcz222_6 : wr.cell? ⟨gb191, 6, none⟩ = some (.int .i64 a1_6) := (blk_cell BK191.out 6).trans rfl
                      have hfz222_0 := blk_frozen BK191.out 0
                      have hfz222_1 := blk_frozen BK191.out 1
                      have hfz222_2 := blk_frozen BK191.out 2
                      have hfz222_3 := blk_frozen BK191.out 3
                      have hfz222_4 := blk_frozen BK191.out 4
                      have hfz222_5 := blk_frozen BK191.out 5
                      have hfz222_6 := blk_frozen BK191.out 6
                      have hcz223_0 : wr.cell? ⟨gb200, 0, none⟩ = some (.int .u8 t194) := (blk_cell BK200.out 0).trans rfl
                      have hcz223_1 : wr.cell? ⟨gb200, 1, none⟩ = some (.string t195) := (blk_cell BK200.out 1).trans rfl
                      have hcz223_2 : wr.cell? ⟨gb200, 2, none⟩ = some (.slice Ao22 t196.length co22) := (blk_cell BK200.out 2).trans rfl
                      have hfz223_0 := blk_frozen BK200.out 0
                      have hfz223_1 := blk_frozen BK200.out 1
                      have hfz223_2 := blk_frozen BK200.out 2
                      as_aux_lemma =>
                       go_wp2_with (first | (go_at_call 10; (with_reducible refine (mailroomlaw07_shown.calls t194 t195 _ _ t196 t199 t217 _ ?side1 ?side2 A215.out).mono ?_); (case side1 => repeat (first | exact (Kd.R_reads' HO_201002.out).2.2 | (with_reducible refine Kd.C_alloc ?_ _) | (with_reducible refine Kd.C_drewN ?_ _) | (with_reducible refine Kd.C_drew ?_))); (case side2 => exact (Kd.R_reads' HO_201002.out).2.1); rintro e w224 ⟨rfl, hb⟩; have n0_ := Aside0.mk (Kd.R_below (by (with_reducible repeat (first | apply Kd.R_alloc | apply Kd.R_drewN | apply Kd.R_drew)); exact HO_68.out) hb); have n1_ := Aside0.mk (Kd.R_below (by (with_reducible repeat (first | apply Kd.R_alloc | apply Kd.R_drewN | apply Kd.R_drew)); exact HO_201002.out) hb); have n2_ := Aside0.mk (blk_below (g := gb191) (o := .cells #[.bool a1_0, .bool a1_1, .bool false, .bool false, .bool a1_4, .bool a1_5, .int .i64 a1_6] 23 (0, 0)) (by (with_reducible repeat (first | refine blk_drewN ?_ _ | refine blk_drew ?_ | refine blk_alloc ?_ _)); exact BK191.out) hb); have n3_ := Aside0.mk (blk_below (g := gb200) (o := .cells #[.int .u8 t194, .string t195, .slice Ao22 t196.length co22] 27 (0, 0)) (by (with_reducible repeat (first | refine blk_drewN ?_ _ | refine blk_drew ?_ | refine blk_alloc ?_ _)); exact BK200.out) hb); have n4_ := Aside0.mk (below_step (by repeat (first | (with_reducible first | exact HB.out | apply below_alloc | apply pw_below_drewN | apply below_drew1 | refine below_set ?_ GE191.out | refine below_set ?_ GE200.out) | exact HB.out)) hb); clear HO_68; clear HO_201002; clear BK191; clear BK200; clear HB; have HO_68 := n0_; have HO_201002 := n1_; have BK191 := n2_; have BK200 := n3_; have HB := n4_; clear n0_ n1_ n2_ n3_ n4_; (try clear hb); (try clear hb2); (try clear hk); (try clear hi)))
                       go_meet
                       case rel => exact ⟨_, H', ⟨by have := HJ6.out; have := HK2.out; first | omega | exact Nat.le_refl _⟩, ⟨by (with_reducible repeat (first | apply Kd.R_alloc | apply Kd.R_drewN | apply Kd.R_drew)); exact HO_201002.out⟩, ⟨by (with_reducible repeat (first | refine blk_drewN ?_ _ | refine blk_drew ?_ | refine blk_alloc ?_ _)); exact BK191.out⟩, ⟨by (with_reducible repeat (first | refine blk_drewN ?_ _ | refine blk_drew ?_ | refine blk_alloc ?_ _)); exact BK200.out⟩, ⟨by repeat (first | (with_reducible first | exact HB.out | apply below_alloc | apply pw_below_drewN | apply below_drew1 | refine below_set ?_ GE191.out | refine below_set ?_ GE200.out) | exact HB.out)⟩⟩
                    ·rw [if_neg c214] at H
                     have c214b0 : (t195.toList == a0.toList) = false := beq_eq_false_iff_ne.mpr c214
                     have c214b1 : (t195.toList != a0.toList) = true := bne_iff_ne.mpr c214
                     exact absurd ((Option.some.inj H).trans hr_.out) (by decide)
                   ·rw [if_neg c213] at H
                    have c213b0 : (t194 == 3) = false := beq_eq_false_iff_ne.mpr c213
                    have c213b1 : (t194 != 3) = true := bne_iff_ne.mpr c213
                    exact absurd ((Option.some.inj H).trans hr_.out) (by decide)
                  ·rw [if_neg c212] at H
                   have c212b0 : ((t196.length : Int) == x21_2) = false := beq_eq_false_iff_ne.mpr c212
                   have c212b1 : ((t196.length : Int) != x21_2) = true := bne_iff_ne.mpr c212
                   exact absurd ((Option.some.inj H).trans hr_.out) (by decide)
                 ·rw [if_neg c211] at H
                  have c211b0 : (t205.toList == a4.toList) = false := beq_eq_false_iff_ne.mpr c211
                  have c211b1 : (t205.toList != a4.toList) = true := bne_iff_ne.mpr c211
                  exact absurd ((Option.some.inj H).trans hr_.out) (by decide)
                ·replace c210 := Bool.eq_false_iff.mpr c210
                 subst c210
                 (try simp only [Bool.false_bne, Bool.true_bne, Bool.not_not] at c156b0)
                 (try simp only [Bool.false_bne, Bool.true_bne, Bool.not_not] at c50b0)
                 have H1 : (if (t196.length : Int) = x21_2 then (if t194 = 3 then (if t195.toList = a0.toList then ((mailroomlaw07_shown.f t194 t195 t196 t199).bind fun t218 => (if t218.toList = ([] : List UInt8) then (some false) else (mailroomlaw07_CmdOffers.j2 k2 a0 a5 a1_0 a1_1 false false a1_4 a1_5 a1_6))) else (some false)) else (some false)) else (some false)) = some r := by rw [if_neg (show ¬ (false = true) by decide)] at H; exact H
                 clear H
                 have H := H1
                 clear H1
                 by_cases c236 : (t196.length : Int) = x21_2
                 ·rw [if_pos c236] at H
                  have c236b0 : ((t196.length : Int) == x21_2) = true := beq_iff_eq.mpr c236
                  have c236b1 : ((t196.length : Int) != x21_2) = false := bne_eq_false_iff_eq.mpr c236
                  clear c236
                  by_cases c237 : t194 = 3
                  ·rw [if_pos c237] at H
                   have c237b0 : (t194 == 3) = true := beq_iff_eq.mpr c237
                   have c237b1 : (t194 != 3) = false := bne_eq_false_iff_eq.mpr c237
                   clear c237
                   by_cases c238 : t195.toList = a0.toList
                   ·rw [if_pos c238] at H
                    have c238b0 : (t195.toList == a0.toList) = true := beq_iff_eq.mpr c238
                    have c238b1 : (t195.toList != a0.toList) = false := bne_eq_false_iff_eq.mpr c238
                    clear c238
                    replace H := Option.bind_eq_some_iff.mp H
                    obtain ⟨t218, A2390, H⟩ := H
                    replace H : (if t218.toList = ([] : List UInt8) then (some false) else (mailroomlaw07_CmdOffers.j2 k2 a0 a5 a1_0 a1_1 false false a1_4 a1_5 a1_6)) = some r := H
                    have A239 := Aside0.mk A2390
                    clear A2390
                    by_cases c240 : t218.toList = ([] : List UInt8)
                    ·rw [if_pos c240] at H
                     have c240b0 : (t218.toList == ([] : List UInt8)) = true := beq_iff_eq.mpr c240
                     have c240b1 : (t218.toList != ([] : List UInt8)) = false := bne_eq_false_iff_eq.mpr c240
                     clear c240
                     exact absurd ((Option.some.inj H).trans hr_.out) (by decide)
                    ·rw [if_neg c240] at H
                     have c240b0 : (t218.toList == ([] : List UInt8)) = false := beq_eq_false_iff_ne.mpr c240
                     have c240b1 : (t218.toList != ([] : List UInt8)) = true := bne_iff_ne.mpr c240
                     have H' := Aside0.mk H
                     clear H
                     have hnb245 := NB191_200.out
                     have hnc245 := NB200_191.out
                     have hcz246_0 : wr.cell? ⟨gb191, 0, none⟩ = some (.bool a1_0) := (blk_cell BK191.out 0).trans rfl
                     have hcz246_1 : wr.cell? ⟨gb191, 1, none⟩ = some (.bool a1_1) := (blk_cell BK191.out 1).trans rfl
                     have hcz246_2 : wr.cell? ⟨gb191, 2, none⟩ = some (.bool false) := (blk_cell BK191.out 2).trans rfl
                     have hcz246_3 : wr.cell? ⟨gb191, 3, none⟩ = some (.bool false) := (blk_cell BK191.out 3).trans rfl
                     have hcz246_4 : wr.cell? ⟨gb191, 4, none⟩ = some (.bool a1_4) := (blk_cell BK191.out 4).trans rfl
                     have hcz246_5 : wr.cell? ⟨gb191, 5, none⟩ = some (.bool a1_5) := (blk_cell BK191.out 5).trans rfl
                     have hcz246_6 : wr.cell? ⟨gb191, 6, none⟩ = some (.int .i64 a1_6) := (blk_cell BK191.out 6).trans rfl
                     have hfz246_0 := blk_frozen BK191.out 0
                     have hfz246_1 := blk_frozen BK191.out 1
                     have hfz246_2 := blk_frozen BK191.out 2
                     have hfz246_3 := blk_frozen BK191.out 3
                     have hfz246_4 := blk_frozen BK191.out 4
                     have hfz246_5 := blk_frozen BK191.out 5
                     have hfz246_6 := blk_frozen BK191.out 6
                     have hcz247_0 : wr.cell? ⟨gb200, 0, none⟩ = some (.int .u8 t194) := (blk_cell BK200.out 0).trans rfl
                     have hcz247_1 : wr.cell? ⟨gb200, 1, none⟩ = some (.string t195) := (blk_cell BK200.out 1).trans rfl
                     have hcz247_2 : wr.cell? ⟨gb200, 2, none⟩ = some (.slice Ao22 t196.length co22) := (blk_cell BK200.out 2).trans rfl
                     have hfz247_0 := blk_frozen BK200.out 0
                     have hfz247_1 := blk_frozen BK200.out 1
                     have hfz247_2 := blk_frozen BK200.out 2
                     as_aux_lemma =>
                      go_wp2_with (first | (go_at_call 10; (with_reducible refine (mailroomlaw07_shown.calls t194 t195 _ _ t196 t199 t218 _ ?side1 ?side2 A239.out).mono ?_); (case side1 => repeat (first | exact (Kd.R_reads' HO_201002.out).2.2 | (with_reducible refine Kd.C_alloc ?_ _) | (with_reducible refine Kd.C_drewN ?_ _) | (with_reducible refine Kd.C_drew ?_))); (case side2 => exact (Kd.R_reads' HO_201002.out).2.1); rintro e w248 ⟨rfl, hb⟩; have n0_ := Aside0.mk (Kd.R_below (by (with_reducible repeat (first | apply Kd.R_alloc | apply Kd.R_drewN | apply Kd.R_drew)); exact HO_68.out) hb); have n1_ := Aside0.mk (Kd.R_below (by (with_reducible repeat (first | apply Kd.R_alloc | apply Kd.R_drewN | apply Kd.R_drew)); exact HO_201002.out) hb); have n2_ := Aside0.mk (blk_below (g := gb191) (o := .cells #[.bool a1_0, .bool a1_1, .bool false, .bool false, .bool a1_4, .bool a1_5, .int .i64 a1_6] 23 (0, 0)) (by (with_reducible repeat (first | refine blk_drewN ?_ _ | refine blk_drew ?_ | refine blk_alloc ?_ _)); exact BK191.out) hb); have n3_ := Aside0.mk (blk_below (g := gb200) (o := .cells #[.int .u8 t194, .string t195, .slice Ao22 t196.length co22] 27 (0, 0)) (by (with_reducible repeat (first | refine blk_drewN ?_ _ | refine blk_drew ?_ | refine blk_alloc ?_ _)); exact BK200.out) hb); have n4_ := Aside0.mk (below_step (by repeat (first | (with_reducible first | exact HB.out | apply below_alloc | apply pw_below_drewN | apply below_drew1 | refine below_set ?_ GE191.out | refine below_set ?_ GE200.out) | exact HB.out)) hb); clear HO_68; clear HO_201002; clear BK191; clear BK200; clear HB; have HO_68 := n0_; have HO_201002 := n1_; have BK191 := n2_; have BK200 := n3_; have HB := n4_; clear n0_ n1_ n2_ n3_ n4_; (try clear hb); (try clear hb2); (try clear hk); (try clear hi)))
                      go_meet
                      case rel => exact ⟨_, H', ⟨by have := HJ6.out; have := HK2.out; first | omega | exact Nat.le_refl _⟩, ⟨by (with_reducible repeat (first | apply Kd.R_alloc | apply Kd.R_drewN | apply Kd.R_drew)); exact HO_201002.out⟩, ⟨by (with_reducible repeat (first | refine blk_drewN ?_ _ | refine blk_drew ?_ | refine blk_alloc ?_ _)); exact BK191.out⟩, ⟨by (with_reducible repeat (first | refine blk_drewN ?_ _ | refine blk_drew ?_ | refine blk_alloc ?_ _)); exact BK200.out⟩, ⟨by repeat (first | (with_reducible first | exact HB.out | apply below_alloc | apply pw_below_drewN | apply below_drew1 | refine below_set ?_ GE191.out | refine below_set ?_ GE200.out) | exact HB.out)⟩⟩
                   ·rw [if_neg c238] at H
                    have c238b0 : (t195.toList == a0.toList) = false := beq_eq_false_iff_ne.mpr c238
                    have c238b1 : (t195.toList != a0.toList) = true := bne_iff_ne.mpr c238
                    exact absurd ((Option.some.inj H).trans hr_.out) (by decide)
                  ·rw [if_neg c237] at H
                   have c237b0 : (t194 == 3) = false := beq_eq_false_iff_ne.mpr c237
                   have c237b1 : (t194 != 3) = true := bne_iff_ne.mpr c237
                   exact absurd ((Option.some.inj H).trans hr_.out) (by decide)
                 ·rw [if_neg c236] at H
                  have c236b0 : ((t196.length : Int) == x21_2) = false := beq_eq_false_iff_ne.mpr c236
                  have c236b1 : ((t196.length : Int) != x21_2) = true := bne_iff_ne.mpr c236
                  exact absurd ((Option.some.inj H).trans hr_.out) (by decide)
      ·rw [if_neg c23] at H
       have c23b0 : (t199 == 0) = false := beq_eq_false_iff_ne.mpr c23
       have c23b1 : (t199 != 0) = true := bne_iff_ne.mpr c23
       (first | rw [c23b0] | (simp only [i64_w, i32_w]; rw [c23b0]) | skip)
       by_cases c258 : t199 = 4
       ·rw [if_pos c258] at H
        have c258b0 : (t199 == 4) = true := beq_iff_eq.mpr c258
        have c258b1 : (t199 != 4) = false := bne_eq_false_iff_eq.mpr c258
        clear c258
        by_cases c259 : t194 = 0
        ·rw [if_pos c259] at H
         have c259b0 : (t194 == 0) = true := beq_iff_eq.mpr c259
         have c259b1 : (t194 != 0) = false := bne_eq_false_iff_eq.mpr c259
         clear c259
         have H' := Aside0.mk H
         clear H
         have hnb260 := NB200_191.out
         have hnc260 := NB191_200.out
         have hcz261_0 : w19.cell? ⟨gb200, 0, none⟩ = some (.int .u8 0) := (blk_cell BK200.out 0).trans rfl
         have hcz261_1 : w19.cell? ⟨gb200, 1, none⟩ = some (.string (⟨#[]⟩ : ByteArray)) := (blk_cell BK200.out 1).trans rfl
         have hcz261_2 : w19.cell? ⟨gb200, 2, none⟩ = some (.slice none 0 0) := (blk_cell BK200.out 2).trans rfl
         have hfz261_0 := blk_frozen BK200.out 0
         have hfz261_1 := blk_frozen BK200.out 1
         have hfz261_2 := blk_frozen BK200.out 2
         as_aux_lemma =>
          go_wp2
          go_meet
          case rel => exact ⟨_, H', ⟨by have := HJ6.out; first | omega | exact Nat.le_refl _⟩, ⟨by (with_reducible repeat (first | apply Kd.R_alloc | apply Kd.R_drewN | apply Kd.R_drew)); exact Kd.R_mono (Kd.R_far (p := ⟨gb200, 2, none⟩) (Kd.R_far (p := ⟨gb200, 1, none⟩) (Kd.R_far (p := ⟨gb200, 0, none⟩) (Kd.R_types HO198.out BK200.out (by decide)) (fun _ hk => hk.2) (.int .u8 t194)) (fun _ hk => hk.2) (.string t195)) (fun _ hk => hk.2) (.slice Ao22 t196.length co22)) (fun _ hk => trivial)⟩, ⟨by (with_reducible repeat (first | refine blk_drewN ?_ _ | refine blk_drew ?_ | refine blk_alloc ?_ _)); refine blk_far ?_ NB191_200.out _; (with_reducible repeat (first | refine blk_drewN ?_ _ | refine blk_drew ?_ | refine blk_alloc ?_ _)); refine blk_far ?_ NB191_200.out _; (with_reducible repeat (first | refine blk_drewN ?_ _ | refine blk_drew ?_ | refine blk_alloc ?_ _)); refine blk_far ?_ NB191_200.out _; (with_reducible repeat (first | refine blk_drewN ?_ _ | refine blk_drew ?_ | refine blk_alloc ?_ _)); exact BK191.out⟩, ⟨by (with_reducible repeat (first | refine blk_drewN ?_ _ | refine blk_drew ?_ | refine blk_alloc ?_ _)); refine blk_put (cs := #[.int .u8 t194, .string t195, .slice none 0 0]) ?_ 2 _ rfl; (with_reducible repeat (first | refine blk_drewN ?_ _ | refine blk_drew ?_ | refine blk_alloc ?_ _)); refine blk_put (cs := #[.int .u8 t194, .string (⟨#[]⟩ : ByteArray), .slice none 0 0]) ?_ 1 _ rfl; (with_reducible repeat (first | refine blk_drewN ?_ _ | refine blk_drew ?_ | refine blk_alloc ?_ _)); refine blk_put (cs := #[.int .u8 0, .string (⟨#[]⟩ : ByteArray), .slice none 0 0]) ?_ 0 _ rfl; (with_reducible repeat (first | refine blk_drewN ?_ _ | refine blk_drew ?_ | refine blk_alloc ?_ _)); exact BK200.out⟩, ⟨by repeat (first | (with_reducible first | exact HB.out | apply below_alloc | apply pw_below_drewN | apply below_drew1 | refine below_set ?_ GE191.out | refine below_set ?_ GE200.out) | exact HB.out)⟩⟩
        ·rw [if_neg c259] at H
         have c259b0 : (t194 == 0) = false := beq_eq_false_iff_ne.mpr c259
         have c259b1 : (t194 != 0) = true := bne_iff_ne.mpr c259
         exact absurd ((Option.some.inj H).trans hr_.out) (by decide)
       ·rw [if_neg c258] at H
        have c258b0 : (t199 == 4) = false := beq_eq_false_iff_ne.mpr c258
        have c258b1 : (t199 != 4) = true := bne_iff_ne.mpr c258
        exact absurd ((Option.some.inj H).trans hr_.out) (by decide)
     case rest =>
      clear HC16
      try clear c1
      try clear c2
      try clear p2
      try clear c15
      try clear c18
      try clear c19
      try clear c20
      try clear c21
      try clear c22
      try clear c23
      try clear c23b0
      try clear c23b1
      try clear c24
      try clear c25
      try clear c26
      try clear c155
      try clear c185
      try clear c185b0
      try clear c185b1
      try clear c186
      try clear c186b0
      try clear c186b1
      try clear c187
      try clear c187b0
      try clear c187b1
      try clear c189
      try clear c189b0
      try clear c189b1
      try clear c194
      try clear c198
      try clear c201
      try clear c204
      try clear c207
      try clear c207b0
      try clear c207b1
      try clear c207b2
      try clear c208
      try clear c210
      try clear c211
      try clear c211b0
      try clear c211b1
      try clear c212
      try clear c212b0
      try clear c212b1
      try clear c213
      try clear c213b0
      try clear c213b1
      try clear c214
      try clear c214b0
      try clear c214b1
      try clear c216
      try clear c216b0
      try clear c216b1
      try clear c217
      try clear c221
      try clear c225
      try clear c228
      try clear c231
      try clear c234
      try clear c236
      try clear c236b0
      try clear c236b1
      try clear c237
      try clear c237b0
      try clear c237b1
      try clear c238
      try clear c238b0
      try clear c238b1
      try clear c240
      try clear c240b0
      try clear c240b1
      try clear c241
      try clear c245
      try clear c249
      try clear c252
      try clear c255
      try clear c258
      try clear c258b0
      try clear c258b1
      try clear c259
      try clear c259b0
      try clear c259b1
      try clear c260
      try clear c262
      try clear hcz191_5
      try clear hcz191_6
      try clear hcz192_0
      try clear hcz192_1
      try clear hcz192_2
      try clear hcz195_0
      try clear hcz195_1
      try clear hcz195_2
      try clear hcz195_3
      try clear hcz195_4
      try clear hcz195_5
      try clear hcz195_6
      try clear hcz196_0
      try clear hcz196_1
      try clear hcz196_2
      try clear hcz199_0
      try clear hcz199_1
      try clear hcz199_2
      try clear hcz199_3
      try clear hcz199_4
      try clear hcz199_5
      try clear hcz199_6
      try clear hcz200_0
      try clear hcz200_1
      try clear hcz200_2
      try clear hcz202_0
      try clear hcz202_1
      try clear hcz202_2
      try clear hcz202_3
      try clear hcz202_4
      try clear hcz202_5
      try clear hcz202_6
      try clear hcz203_0
      try clear hcz203_1
      try clear hcz203_2
      try clear hcz205_0
      try clear hcz205_1
      try clear hcz205_2
      try clear hcz205_3
      try clear hcz205_4
      try clear hcz205_5
      try clear hcz205_6
      try clear hcz206_0
      try clear hcz206_1
      try clear hcz206_2
      try clear hcz209_0
      try clear hcz209_1
      try clear hcz209_2
      try clear hcz209_3
      try clear hcz209_4
      try clear hcz209_5
      try clear hcz209_6
      try clear hcz218_0
      try clear hcz218_1
      try clear hcz218_2
      try clear hcz218_3
      try clear hcz218_4
      try clear hcz218_5
      try clear hcz218_6
      try clear hcz219_0
      try clear hcz219_1
      try clear hcz219_2
      try clear hcz222_0
      try clear hcz222_1
      try clear hcz222_2
      try clear hcz222_3
      try clear hcz222_4
      try clear hcz222_5
      try clear hcz222_6
      try clear hcz223_0
      try clear hcz223_1
      try clear hcz223_2
      try clear hcz226_0
      try clear hcz226_1
      try clear hcz226_2
      try clear hcz226_3
      try clear hcz226_4
      try clear hcz226_5
      try clear hcz226_6
      try clear hcz227_0
      try clear hcz227_1
      try clear hcz227_2
      try clear hcz229_0
      try clear hcz229_1
      try clear hcz229_2
      try clear hcz229_3
      try clear hcz229_4
      try clear hcz229_5
      try clear hcz229_6
      try clear hcz230_0
      try clear hcz230_1
      try clear hcz230_2
      try clear hcz232_0
      try clear hcz232_1
      try clear hcz232_2
      try clear hcz232_3
      try clear hcz232_4
      try clear hcz232_5
      try clear hcz232_6
      try clear hcz233_0
      try clear hcz233_1
      try clear hcz233_2
      try clear hcz235_0
      try clear hcz235_1
      try clear hcz235_2
      try clear hcz235_3
      try clear hcz235_4
      try clear hcz235_5
      try clear hcz235_6
      try clear hcz242_0
      try clear hcz242_1
      try clear hcz242_2
      try clear hcz242_3
      try clear hcz242_4
      try clear hcz242_5
      try clear hcz242_6
      try clear hcz243_0
      try clear hcz243_1
      try clear hcz243_2
      try clear hcz246_0
      try clear hcz246_1
      try clear hcz246_2
      try clear hcz246_3
      try clear hcz246_4
      try clear hcz246_5
      try clear hcz246_6
      try clear hcz247_0
      try clear hcz247_1
      try clear hcz247_2
      try clear hcz250_0
      try clear hcz250_1
      try clear hcz250_2
      try clear hcz250_3
      try clear hcz250_4
      try clear hcz250_5
      try clear hcz250_6
      try clear hcz251_0
      try clear hcz251_1
      try clear hcz251_2
      try clear hcz253_0
      try clear hcz253_1
      try clear hcz253_2
      try clear hcz253_3
      try clear hcz253_4
      try clear hcz253_5
      try clear hcz253_6
      try clear hcz254_0
      try clear hcz254_1
      try clear hcz254_2
      try clear hcz256_0
      try clear hcz256_1
      try clear hcz256_2
      try clear hcz256_3
      try clear hcz256_4
      try clear hcz256_5
      try clear hcz256_6
      try clear hcz257_0
      try clear hcz257_1
      try clear hcz257_2
      try clear hcz261_0
      try clear hcz261_1
      try clear hcz261_2
      try clear hcz263_0
      try clear hcz263_1
      try clear hcz263_2
      try clear hfz191_0
      try clear hfz191_1
      try clear hfz191_2
      try clear hfz191_3
      try clear hfz191_4
      try clear hfz191_5
      try clear hfz191_6
      try clear hfz192_0
      try clear hfz192_1
      try clear hfz192_2
      try clear hfz195_0
      try clear hfz195_1
      try clear hfz195_2
      try clear hfz195_3
      try clear hfz195_4
      try clear hfz195_5
      try clear hfz195_6
      try clear hfz196_0
      try clear hfz196_1
      try clear hfz196_2
      try clear hfz199_0
      try clear hfz199_1
      try clear hfz199_2
      try clear hfz199_3
      try clear hfz199_4
      try clear hfz199_5
      try clear hfz199_6
      try clear hfz200_0
      try clear hfz200_1
      try clear hfz200_2
      try clear hfz202_0
      try clear hfz202_1
      try clear hfz202_2
      try clear hfz202_3
      try clear hfz202_4
      try clear hfz202_5
      try clear hfz202_6
      try clear hfz203_0
      try clear hfz203_1
      try clear hfz203_2
      try clear hfz205_0
      try clear hfz205_1
      try clear hfz205_2
      try clear hfz205_3
      try clear hfz205_4
      try clear hfz205_5
      try clear hfz205_6
      try clear hfz206_0
      try clear hfz206_1
      try clear hfz206_2
      try clear hfz209_0
      try clear hfz209_1
      try clear hfz209_2
      try clear hfz209_3
      try clear hfz209_4
      try clear hfz209_5
      try clear hfz209_6
      try clear hfz218_0
      try clear hfz218_1
      try clear hfz218_2
      try clear hfz218_3
      try clear hfz218_4
      try clear hfz218_5
      try clear hfz218_6
      try clear hfz219_0
      try clear hfz219_1
      try clear hfz219_2
      try clear hfz222_0
      try clear hfz222_1
      try clear hfz222_2
      try clear hfz222_3
      try clear hfz222_4
      try clear hfz222_5
      try clear hfz222_6
      try clear hfz223_0
      try clear hfz223_1
      try clear hfz223_2
      try clear hfz226_0
      try clear hfz226_1
      try clear hfz226_2
      try clear hfz226_3
      try clear hfz226_4
      try clear hfz226_5
      try clear hfz226_6
      try clear hfz227_0
      try clear hfz227_1
      try clear hfz227_2
      try clear hfz229_0
      try clear hfz229_1
      try clear hfz229_2
      try clear hfz229_3
      try clear hfz229_4
      try clear hfz229_5
      try clear hfz229_6
      try clear hfz230_0
      try clear hfz230_1
      try clear hfz230_2
      try clear hfz232_0
      try clear hfz232_1
      try clear hfz232_2
      try clear hfz232_3
      try clear hfz232_4
      try clear hfz232_5
      try clear hfz232_6
      try clear hfz233_0
      try clear hfz233_1
      try clear hfz233_2
      try clear hfz235_0
      try clear hfz235_1
      try clear hfz235_2
      try clear hfz235_3
      try clear hfz235_4
      try clear hfz235_5
      try clear hfz235_6
      try clear hfz242_0
      try clear hfz242_1
      try clear hfz242_2
      try clear hfz242_3
      try clear hfz242_4
      try clear hfz242_5
      try clear hfz242_6
      try clear hfz243_0
      try clear hfz243_1
      try clear hfz243_2
      try clear hfz246_0
      try clear hfz246_1
      try clear hfz246_2
      try clear hfz246_3
      try clear hfz246_4
      try clear hfz246_5
      try clear hfz246_6
      try clear hfz247_0
      try clear hfz247_1
      try clear hfz247_2
      try clear hfz250_0
      try clear hfz250_1
      try clear hfz250_2
      try clear hfz250_3
      try clear hfz250_4
      try clear hfz250_5
      try clear hfz250_6
      try clear hfz251_0
      try clear hfz251_1
      try clear hfz251_2
      try clear hfz253_0
      try clear hfz253_1
      try clear hfz253_2
      try clear hfz253_3
      try clear hfz253_4
      try clear hfz253_5
      try clear hfz253_6
      try clear hfz254_0
      try clear hfz254_1
      try clear hfz254_2
      try clear hfz256_0
      try clear hfz256_1
      try clear hfz256_2
      try clear hfz256_3
      try clear hfz256_4
      try clear hfz256_5
      try clear hfz256_6
      try clear hfz257_0
      try clear hfz257_1
      try clear hfz257_2
      try clear hfz261_0
      try clear hfz261_1
      try clear hfz261_2
      try clear hfz263_0
      try clear hfz263_1
      try clear hfz263_2
      obtain ⟨kq, HA, HJ15, HO_201002, BK191, BK200, HB⟩ := hcut
      cases kq with
      | zero => exact absurd HA.out (by simp [mailroomlaw07_CmdOffers.j2])
      | succ kj15 =>
       have H := HA.out
       clear HA
       simp only [mailroomlaw07_CmdOffers.j2] at H
       replace H := Option.bind_eq_some_iff.mp H
       obtain ⟨⟨t219, t220, t221, t224⟩, A2640, H⟩ := H
       replace H : (if t224 = 0 then ((cmd_Get.f kj15 t219 t220 t221 (⟨#[78, 79, 84, 73, 70, 89]⟩ : ByteArray)).bind fun bt226 => (if a1_3 = true then (if (bt226.2 == a5) = true then (if bt226.2 = true then (if bt226.1.toList = ([78, 69, 86, 69, 82] : List UInt8) then (if (t221.length : Int) = 1 then (if t219 = 4 then (if t220.toList = a0.toList then ((mailroomlaw07_shown.f t219 t220 t221 t224).bind fun t228 => (some (!t228.toList.isEmpty))) else (some false)) else (some false)) else (some false)) else (some false)) else (if (t221.length : Int) = 0 then (if t219 = 4 then (if t220.toList = a0.toList then ((mailroomlaw07_shown.f t219 t220 t221 t224).bind fun t229 => (some (!t229.toList.isEmpty))) else (some false)) else (some false)) else (some false))) else (some false)) else (if (bt226.2 == false) = true then (if bt226.2 = true then (if bt226.1.toList = ([78, 69, 86, 69, 82] : List UInt8) then (if (t221.length : Int) = 1 then (if t219 = 4 then (if t220.toList = a0.toList then ((mailroomlaw07_shown.f t219 t220 t221 t224).bind fun t230 => (some (!t230.toList.isEmpty))) else (some false)) else (some false)) else (some false)) else (some false)) else (if (t221.length : Int) = 0 then (if t219 = 4 then (if t220.toList = a0.toList then ((mailroomlaw07_shown.f t219 t220 t221 t224).bind fun t231 => (some (!t231.toList.isEmpty))) else (some false)) else (some false)) else (some false))) else (some false)))) else (if t224 = 4 then (some (t219 == 0)) else (some false))) = some r := H
       have A264 := Aside0.mk A2640
       clear A2640
       by_cases c265 : t224 = 0
       ·rw [if_pos c265] at H
        have c265b0 : (t224 == 0) = true := beq_iff_eq.mpr c265
        have c265b1 : (t224 != 0) = false := bne_eq_false_iff_eq.mpr c265
        clear c265
        replace H := Option.bind_eq_some_iff.mp H
        obtain ⟨⟨t226, t227⟩, A2660, H⟩ := H
        replace H : (if a1_3 = true then (if (t227 == a5) = true then (if t227 = true then (if t226.toList = ([78, 69, 86, 69, 82] : List UInt8) then (if (t221.length : Int) = 1 then (if t219 = 4 then (if t220.toList = a0.toList then ((mailroomlaw07_shown.f t219 t220 t221 t224).bind fun t228 => (some (!t228.toList.isEmpty))) else (some false)) else (some false)) else (some false)) else (some false)) else (if (t221.length : Int) = 0 then (if t219 = 4 then (if t220.toList = a0.toList then ((mailroomlaw07_shown.f t219 t220 t221 t224).bind fun t229 => (some (!t229.toList.isEmpty))) else (some false)) else (some false)) else (some false))) else (some false)) else (if (t227 == false) = true then (if t227 = true then (if t226.toList = ([78, 69, 86, 69, 82] : List UInt8) then (if (t221.length : Int) = 1 then (if t219 = 4 then (if t220.toList = a0.toList then ((mailroomlaw07_shown.f t219 t220 t221 t224).bind fun t230 => (some (!t230.toList.isEmpty))) else (some false)) else (some false)) else (some false)) else (some false)) else (if (t221.length : Int) = 0 then (if t219 = 4 then (if t220.toList = a0.toList then ((mailroomlaw07_shown.f t219 t220 t221 t224).bind fun t231 => (some (!t231.toList.isEmpty))) else (some false)) else (some false)) else (some false))) else (some false))) = some r := H
        have A266 := Aside0.mk A2660
        clear A2660
        by_cases c267 : a1_3 = true
        ·subst c267
         have H1 : (if (t227 == a5) = true then (if t227 = true then (if t226.toList = ([78, 69, 86, 69, 82] : List UInt8) then (if (t221.length : Int) = 1 then (if t219 = 4 then (if t220.toList = a0.toList then ((mailroomlaw07_shown.f t219 t220 t221 t224).bind fun t228 => (some (!t228.toList.isEmpty))) else (some false)) else (some false)) else (some false)) else (some false)) else (if (t221.length : Int) = 0 then (if t219 = 4 then (if t220.toList = a0.toList then ((mailroomlaw07_shown.f t219 t220 t221 t224).bind fun t229 => (some (!t229.toList.isEmpty))) else (some false)) else (some false)) else (some false))) else (some false)) = some r := by rw [if_pos rfl] at H; exact H
         clear H
         have H := H1
         clear H1
         by_cases c268 : (t227 == a5) = true
         ·rw [if_pos c268] at H
          have c268b0 : (t227 == a5) = true := c268
          (try (have c268b1 : decide (t227 = a5) = true := by simpa using c268))
          (try (have c268b2 : (t227 == a5) = true := by simpa using c268))
          clear c268
          by_cases c269 : t227 = true
          ·subst c269
           have H1 : (if t226.toList = ([78, 69, 86, 69, 82] : List UInt8) then (if (t221.length : Int) = 1 then (if t219 = 4 then (if t220.toList = a0.toList then ((mailroomlaw07_shown.f t219 t220 t221 t224).bind fun t228 => (some (!t228.toList.isEmpty))) else (some false)) else (some false)) else (some false)) else (some false)) = some r := by rw [if_pos rfl] at H; exact H
           clear H
           have H := H1
           clear H1
           by_cases c270 : t226.toList = ([78, 69, 86, 69, 82] : List UInt8)
           ·rw [if_pos c270] at H
            have c270b0 : (t226.toList == ([78, 69, 86, 69, 82] : List UInt8)) = true := beq_iff_eq.mpr c270
            have c270b1 : (t226.toList != ([78, 69, 86, 69, 82] : List UInt8)) = false := bne_eq_false_iff_eq.mpr c270
            clear c270
            by_cases c271 : (t221.length : Int) = 1
            ·rw [if_pos c271] at H
             have c271b0 : ((t221.length : Int) == 1) = true := beq_iff_eq.mpr c271
             have c271b1 : ((t221.length : Int) != 1) = false := bne_eq_false_iff_eq.mpr c271
             clear c271
             by_cases c272 : t219 = 4
             ·rw [if_pos c272] at H
              have c272b0 : (t219 == 4) = true := beq_iff_eq.mpr c272
              have c272b1 : (t219 != 4) = false := bne_eq_false_iff_eq.mpr c272
              clear c272
              by_cases c273 : t220.toList = a0.toList
              ·rw [if_pos c273] at H
               have c273b0 : (t220.toList == a0.toList) = true := beq_iff_eq.mpr c273
               have c273b1 : (t220.toList != a0.toList) = false := bne_eq_false_iff_eq.mpr c273
               clear c273
               replace H := Option.bind_eq_some_iff.mp H
               obtain ⟨t228, A2740, H⟩ := H
               replace H : (some (!t228.toList.isEmpty)) = some r := H
               have A274 := Aside0.mk A2740
               clear A2740
               obtain rfl := Option.some.inj H
               have hnb275 := NB191_200.out
               have hnc275 := NB200_191.out
               have hcz276_0 : wc.cell? ⟨gb191, 0, none⟩ = some (.bool a1_0) := (blk_cell BK191.out 0).trans rfl
               have hcz276_1 : wc.cell? ⟨gb191, 1, none⟩ = some (.bool a1_1) := (blk_cell BK191.out 1).trans rfl
               have hcz276_2 : wc.cell? ⟨gb191, 2, none⟩ = some (.bool a1_2) := (blk_cell BK191.out 2).trans rfl
               have hcz276_3 : wc.cell? ⟨gb191, 3, none⟩ = some (.bool true) := (blk_cell BK191.out 3).trans rfl
               have hcz276_4 : wc.cell? ⟨gb191, 4, none⟩ = some (.bool a1_4) := (blk_cell BK191.out 4).trans rfl
               have hcz276_5 : wc.cell? ⟨gb191, 5, none⟩ = some (.bool a1_5) := (blk_cell BK191.out 5).trans rfl
               have hcz276_6 : wc.cell? ⟨gb191, 6, none⟩ = some (.int .i64 a1_6) := (blk_cell BK191.out 6).trans rfl
               have hfz276_0 := blk_frozen BK191.out 0
               have hfz276_1 := blk_frozen BK191.out 1
               have hfz276_2 := blk_frozen BK191.out 2
               have hfz276_3 := blk_frozen BK191.out 3
               have hfz276_4 := blk_frozen BK191.out 4
               have hfz276_5 := blk_frozen BK191.out 5
               have hfz276_6 := blk_frozen BK191.out 6
               as_aux_lemma =>
                go_wp2_with (first | ((with_reducible refine gate_callee (f := 11) rfl ?_); refine goesL_ (some 144) rfl rfl Tryd.func11 (by kernel_rfl) rfl #[.string a0, .agg #[.bool a1_0, .bool a1_1, .bool a1_2, .bool true, .bool a1_4, .bool a1_5, .int .i64 a1_6], .bool a5] rfl (by (try simp only [List.map_toArray, List.map_cons, List.map_nil]); first | done | rfl | (simp only [List.length_drop, List.length_take]; rfl)) ?_; (with_reducible refine (cmd_Rcpt.calls kj15 a0 a1_0 a1_1 a1_2 true a1_4 a1_5 a1_6 a5 t219 t220 t221 t224 _ A264.out).mono ?_); rintro e w277 ⟨v222, rfl, ho0, hb⟩; refine ⟨_, rfl, ?_⟩; have n0_ := Aside0.mk (Kd.R_elder' (by (with_reducible repeat (first | apply Kd.R_alloc | apply Kd.R_drewN | apply Kd.R_drew)); exact HO_201002.out) (Kd.R_base ho0) hb); have n1_ := Aside0.mk (Kd.R_lower (Kd.R_new' ho0 (Kd.R_lt (by (with_reducible repeat (first | apply Kd.R_alloc | apply Kd.R_drewN | apply Kd.R_drew)); exact HO_201002.out))) (below_size (by repeat (first | (with_reducible first | exact HB.out | apply below_alloc | apply pw_below_drewN | apply below_drew1 | refine below_set ?_ GE191.out | refine below_set ?_ GE200.out) | exact HB.out)))); have n2_ := Aside0.mk (blk_below (g := gb191) (o := .cells #[.bool a1_0, .bool a1_1, .bool a1_2, .bool true, .bool a1_4, .bool a1_5, .int .i64 a1_6] 23 (0, 0)) (by (with_reducible repeat (first | refine blk_drewN ?_ _ | refine blk_drew ?_ | refine blk_alloc ?_ _)); exact BK191.out) hb); have n3_ := Aside0.mk (blk_below (g := gb200) (o := .cells #[.int .u8 t194, .string t195, .slice Ao22 t196.length co22] 27 (0, 0)) (by (with_reducible repeat (first | refine blk_drewN ?_ _ | refine blk_drew ?_ | refine blk_alloc ?_ _)); exact BK200.out) hb); have n4_ := Aside0.mk (below_step (by repeat (first | (with_reducible first | exact HB.out | apply below_alloc | apply pw_below_drewN | apply below_drew1 | refine below_set ?_ GE191.out | refine below_set ?_ GE200.out) | exact HB.out)) hb); clear HO_201002; clear BK191; clear BK200; clear HB; have HO_201002 := n0_; have HO223 := n1_; have BK191 := n2_; have BK200 := n3_; have HB := n4_; clear n0_ n1_ n2_ n3_ n4_; (try clear hb); (try clear hb2); (try clear hk); (try clear hi); (try clear ho0)) | ((with_reducible refine gate_dst (N := 24) rfl ?_); (try (refine gate_guard (by rfl) ?_; dsimp only)); refine box_event ?hg (N := 24) ?hd (cs := #[.int .u8 0, .string (⟨#[]⟩ : ByteArray), .slice none 0 0]) (t := 27) ?hr ?_; (case hd => rfl); (case hg => rfl); (case hr => first | (go_simp; done) | (go_simp; rfl)); intro gb225 hg w278 hbox hb; have n0_ := Aside0.mk (Kd.R_below (by (with_reducible repeat (first | apply Kd.R_alloc | apply Kd.R_drewN | apply Kd.R_drew)); exact HO_201002.out) hb); have n1_ := Aside0.mk (Kd.R_below (by (with_reducible repeat (first | apply Kd.R_alloc | apply Kd.R_drewN | apply Kd.R_drew)); exact HO223.out) hb); have n2_ := Aside0.mk (blk_below (g := gb191) (o := .cells #[.bool a1_0, .bool a1_1, .bool a1_2, .bool true, .bool a1_4, .bool a1_5, .int .i64 a1_6] 23 (0, 0)) (by (with_reducible repeat (first | refine blk_drewN ?_ _ | refine blk_drew ?_ | refine blk_alloc ?_ _)); exact BK191.out) hb); have n3_ := Aside0.mk (blk_below (g := gb200) (o := .cells #[.int .u8 t194, .string t195, .slice Ao22 t196.length co22] 27 (0, 0)) (by (with_reducible repeat (first | refine blk_drewN ?_ _ | refine blk_drew ?_ | refine blk_alloc ?_ _)); exact BK200.out) hb); have n4_ := Aside0.mk (below_step (by repeat (first | (with_reducible first | exact HB.out | apply below_alloc | apply pw_below_drewN | apply below_drew1 | refine below_set ?_ GE191.out | refine below_set ?_ GE200.out) | exact HB.out)) hb); have n5_ := Aside0.mk (hbox); have n6_ := Aside0.mk ((by rw [hg]; exact (below_size (by repeat (first | (with_reducible first | exact HB.out | apply below_alloc | apply pw_below_drewN | apply below_drew1 | refine below_set ?_ GE191.out | refine below_set ?_ GE200.out) | exact HB.out))) : w.heap.size ≤ gb225)); have n7_ := Aside0.mk ((by rw [hg]; exact (below_size (by repeat (first | (with_reducible first | exact HB.out | apply below_alloc | apply pw_below_drewN | apply below_drew1 | refine below_set ?_ GE191.out | refine below_set ?_ GE200.out) | exact HB.out))) : w.heap.size ≤ gb225)); have n8_ := Aside0.mk ((by rw [hg]; exact Nat.ne_of_lt (blk_lt (g := gb191) (o := .cells #[.bool a1_0, .bool a1_1, .bool a1_2, .bool true, .bool a1_4, .bool a1_5, .int .i64 a1_6] 23 (0, 0)) (by (with_reducible repeat (first | refine blk_drewN ?_ _ | refine blk_drew ?_ | refine blk_alloc ?_ _)); exact BK191.out)) : gb191 ≠ gb225)); have n9_ := Aside0.mk ((by rw [hg]; exact Nat.ne_of_gt (blk_lt (g := gb191) (o := .cells #[.bool a1_0, .bool a1_1, .bool a1_2, .bool true, .bool a1_4, .bool a1_5, .int .i64 a1_6] 23 (0, 0)) (by (with_reducible repeat (first | refine blk_drewN ?_ _ | refine blk_drew ?_ | refine blk_alloc ?_ _)); exact BK191.out)) : gb225 ≠ gb191)); have n10_ := Aside0.mk ((by rw [hg]; exact Nat.ne_of_lt (blk_lt (g := gb200) (o := .cells #[.int .u8 t194, .string t195, .slice Ao22 t196.length co22] 27 (0, 0)) (by (with_reducible repeat (first | refine blk_drewN ?_ _ | refine blk_drew ?_ | refine blk_alloc ?_ _)); exact BK200.out)) : gb200 ≠ gb225)); have n11_ := Aside0.mk ((by rw [hg]; exact Nat.ne_of_gt (blk_lt (g := gb200) (o := .cells #[.int .u8 t194, .string t195, .slice Ao22 t196.length co22] 27 (0, 0)) (by (with_reducible repeat (first | refine blk_drewN ?_ _ | refine blk_drew ?_ | refine blk_alloc ?_ _)); exact BK200.out)) : gb225 ≠ gb200)); clear HO_201002; clear HO223; clear BK191; clear BK200; clear HB; have HO_201002 := n0_; have HO223 := n1_; have BK191 := n2_; have BK200 := n3_; have HB := n4_; have BK225 := n5_; have GW225 := n6_; have GE225 := n7_; have NB191_225 := n8_; have NB225_191 := n9_; have NB200_225 := n10_; have NB225_200 := n11_; clear n0_ n1_ n2_ n3_ n4_ n5_ n6_ n7_ n8_ n9_ n10_ n11_; clear hb hbox hg; have hnb279 := NB225_191.out; have hnc279 := NB191_225.out; have hnb280 := NB225_200.out; have hnc280 := NB200_225.out; have hcz281_0 : w278.cell? ⟨gb225, 0, none⟩ = some (.int .u8 0) := (blk_cell BK225.out 0).trans rfl; have hcz281_1 : w278.cell? ⟨gb225, 1, none⟩ = some (.string (⟨#[]⟩ : ByteArray)) := (blk_cell BK225.out 1).trans rfl; have hcz281_2 : w278.cell? ⟨gb225, 2, none⟩ = some (.slice none 0 0) := (blk_cell BK225.out 2).trans rfl; have hfz281_0 := blk_frozen BK225.out 0; have hfz281_1 := blk_frozen BK225.out 1; have hfz281_2 := blk_frozen BK225.out 2; obtain ⟨Ao282, co282, eo282⟩ := Kd.R_slice HO223.out; subst eo282) | ((with_reducible refine gate_callee (f := 9) rfl ?_); refine goesL_ (some 158) rfl rfl Tryd.func9 (by kernel_rfl) rfl #[.agg #[.int .u8 t219, .string t220, .slice Ao282 t221.length co282], .string (⟨#[78, 79, 84, 73, 70, 89]⟩ : ByteArray)] rfl (by (try simp only [List.map_toArray, List.map_cons, List.map_nil]); first | done | rfl | (simp only [List.length_drop, List.length_take]; rfl)) ?_; (with_reducible refine (cmd_Get.calls kj15 t219 t220 _ _ t221 (⟨#[78, 79, 84, 73, 70, 89]⟩ : ByteArray) t226 true _ ?side1 ?side2 A266.out).mono ?_); (case side1 => refine (Kd.R_reads' (e := 49) (base := w.heap.size) (ok := fun k_ => (True ∧ some k_ ≠ (.slice Ao22 t196.length co22 : Value).ownBlock)) (n := t221.length) (c := co282) ?_).2.2; exact (by (with_reducible repeat (first | apply Kd.R_alloc | apply Kd.R_drewN | apply Kd.R_drew)); exact (Kd.R_mono (Kd.R_far (p := ⟨gb225, 2, none⟩) (Kd.R_far (p := ⟨gb225, 1, none⟩) (Kd.R_far (p := ⟨gb225, 0, none⟩) (Kd.R_types HO223.out BK225.out (by decide)) (fun _ hk => hk.2) (.int .u8 t219)) (fun _ hk => hk.2) (.string t220)) (fun _ hk => hk.2) (.slice Ao282 t221.length co282)) (fun _ h_ => h_.1)))); (case side2 => exact (Kd.R_reads' HO223.out).2.1); rintro e w283 ⟨rfl, hb⟩; refine ⟨_, rfl, ?_⟩; have n0_ := Aside0.mk (Kd.R_below (by (with_reducible repeat (first | apply Kd.R_alloc | apply Kd.R_drewN | apply Kd.R_drew)); exact (Kd.R_mono (Kd.R_far (p := ⟨gb225, 2, none⟩) (Kd.R_far (p := ⟨gb225, 1, none⟩) (Kd.R_far (p := ⟨gb225, 0, none⟩) (Kd.R_types HO_201002.out BK225.out (by decide)) (fun _ hk => hk.2) (.int .u8 t219)) (fun _ hk => hk.2) (.string t220)) (fun _ hk => hk.2) (.slice Ao282 t221.length co282)) (fun _ h_ => h_.1))) hb); have n1_ := Aside0.mk (Kd.R_below (by (with_reducible repeat (first | apply Kd.R_alloc | apply Kd.R_drewN | apply Kd.R_drew)); exact (Kd.R_mono (Kd.R_far (p := ⟨gb225, 2, none⟩) (Kd.R_far (p := ⟨gb225, 1, none⟩) (Kd.R_far (p := ⟨gb225, 0, none⟩) (Kd.R_types HO223.out BK225.out (by decide)) (fun _ hk => hk.2) (.int .u8 t219)) (fun _ hk => hk.2) (.string t220)) (fun _ hk => hk.2) (.slice Ao282 t221.length co282)) (fun _ h_ => h_.1))) hb); have n2_ := Aside0.mk (blk_below (g := gb191) (o := .cells #[.bool a1_0, .bool a1_1, .bool a1_2, .bool true, .bool a1_4, .bool a1_5, .int .i64 a1_6] 23 (0, 0)) (by (with_reducible repeat (first | refine blk_drewN ?_ _ | refine blk_drew ?_ | refine blk_alloc ?_ _)); refine blk_far ?_ NB191_225.out _; (with_reducible repeat (first | refine blk_drewN ?_ _ | refine blk_drew ?_ | refine blk_alloc ?_ _)); refine blk_far ?_ NB191_225.out _; (with_reducible repeat (first | refine blk_drewN ?_ _ | refine blk_drew ?_ | refine blk_alloc ?_ _)); refine blk_far ?_ NB191_225.out _; (with_reducible repeat (first | refine blk_drewN ?_ _ | refine blk_drew ?_ | refine blk_alloc ?_ _)); exact BK191.out) hb); have n3_ := Aside0.mk (blk_below (g := gb200) (o := .cells #[.int .u8 t194, .string t195, .slice Ao22 t196.length co22] 27 (0, 0)) (by (with_reducible repeat (first | refine blk_drewN ?_ _ | refine blk_drew ?_ | refine blk_alloc ?_ _)); refine blk_far ?_ NB200_225.out _; (with_reducible repeat (first | refine blk_drewN ?_ _ | refine blk_drew ?_ | refine blk_alloc ?_ _)); refine blk_far ?_ NB200_225.out _; (with_reducible repeat (first | refine blk_drewN ?_ _ | refine blk_drew ?_ | refine blk_alloc ?_ _)); refine blk_far ?_ NB200_225.out _; (with_reducible repeat (first | refine blk_drewN ?_ _ | refine blk_drew ?_ | refine blk_alloc ?_ _)); exact BK200.out) hb); have n4_ := Aside0.mk (blk_below (g := gb225) (o := .cells #[.int .u8 t219, .string t220, .slice Ao282 t221.length co282] 27 (0, 0)) (by (with_reducible repeat (first | refine blk_drewN ?_ _ | refine blk_drew ?_ | refine blk_alloc ?_ _)); refine blk_put (cs := #[.int .u8 t219, .string t220, .slice none 0 0]) ?_ 2 _ rfl; (with_reducible repeat (first | refine blk_drewN ?_ _ | refine blk_drew ?_ | refine blk_alloc ?_ _)); refine blk_put (cs := #[.int .u8 t219, .string (⟨#[]⟩ : ByteArray), .slice none 0 0]) ?_ 1 _ rfl; (with_reducible repeat (first | refine blk_drewN ?_ _ | refine blk_drew ?_ | refine blk_alloc ?_ _)); refine blk_put (cs := #[.int .u8 0, .string (⟨#[]⟩ : ByteArray), .slice none 0 0]) ?_ 0 _ rfl; (with_reducible repeat (first | refine blk_drewN ?_ _ | refine blk_drew ?_ | refine blk_alloc ?_ _)); exact BK225.out) hb); have n5_ := Aside0.mk (below_step (by repeat (first | (with_reducible first | exact HB.out | apply below_alloc | apply pw_below_drewN | apply below_drew1 | refine below_set ?_ GE191.out | refine below_set ?_ GE200.out | refine below_set ?_ GE225.out) | exact HB.out)) hb); clear HO_201002; clear HO223; clear BK191; clear BK200; clear BK225; clear HB; have HO_201002 := n0_; have HO223 := n1_; have BK191 := n2_; have BK200 := n3_; have BK225 := n4_; have HB := n5_; clear n0_ n1_ n2_ n3_ n4_ n5_; (try clear hb); (try clear hb2); (try clear hk); (try clear hi); have hcz284_0 : w283.cell? ⟨gb191, 0, none⟩ = some (.bool a1_0) := (blk_cell BK191.out 0).trans rfl; have hcz284_1 : w283.cell? ⟨gb191, 1, none⟩ = some (.bool a1_1) := (blk_cell BK191.out 1).trans rfl; have hcz284_2 : w283.cell? ⟨gb191, 2, none⟩ = some (.bool a1_2) := (blk_cell BK191.out 2).trans rfl; have hcz284_3 : w283.cell? ⟨gb191, 3, none⟩ = some (.bool true) := (blk_cell BK191.out 3).trans rfl; have hcz284_4 : w283.cell? ⟨gb191, 4, none⟩ = some (.bool a1_4) := (blk_cell BK191.out 4).trans rfl; have hcz284_5 : w283.cell? ⟨gb191, 5, none⟩ = some (.bool a1_5) := (blk_cell BK191.out 5).trans rfl; have hcz284_6 : w283.cell? ⟨gb191, 6, none⟩ = some (.int .i64 a1_6) := (blk_cell BK191.out 6).trans rfl; have hfz284_0 := blk_frozen BK191.out 0; have hfz284_1 := blk_frozen BK191.out 1; have hfz284_2 := blk_frozen BK191.out 2; have hfz284_3 := blk_frozen BK191.out 3; have hfz284_4 := blk_frozen BK191.out 4; have hfz284_5 := blk_frozen BK191.out 5; have hfz284_6 := blk_frozen BK191.out 6; have hcz285_0 : w283.cell? ⟨gb225, 0, none⟩ = some (.int .u8 t219) := (blk_cell BK225.out 0).trans rfl; have hcz285_1 : w283.cell? ⟨gb225, 1, none⟩ = some (.string t220) := (blk_cell BK225.out 1).trans rfl; have hcz285_2 : w283.cell? ⟨gb225, 2, none⟩ = some (.slice Ao282 t221.length co282) := (blk_cell BK225.out 2).trans rfl; have hfz285_0 := blk_frozen BK225.out 0; have hfz285_1 := blk_frozen BK225.out 1; have hfz285_2 := blk_frozen BK225.out 2) | (go_at_call 10; (with_reducible refine (mailroomlaw07_shown.calls t219 t220 _ _ t221 t224 t228 _ ?side1 ?side2 A274.out).mono ?_); (case side1 => repeat (first | exact (Kd.R_reads' HO223.out).2.2 | (with_reducible refine Kd.C_alloc ?_ _) | (with_reducible refine Kd.C_drewN ?_ _) | (with_reducible refine Kd.C_drew ?_))); (case side2 => exact (Kd.R_reads' HO223.out).2.1); rintro e w286 ⟨rfl, hb⟩; have n0_ := Aside0.mk (Kd.R_below (by (with_reducible repeat (first | apply Kd.R_alloc | apply Kd.R_drewN | apply Kd.R_drew)); exact HO_201002.out) hb); have n1_ := Aside0.mk (Kd.R_below (by (with_reducible repeat (first | apply Kd.R_alloc | apply Kd.R_drewN | apply Kd.R_drew)); exact HO223.out) hb); have n2_ := Aside0.mk (blk_below (g := gb191) (o := .cells #[.bool a1_0, .bool a1_1, .bool a1_2, .bool true, .bool a1_4, .bool a1_5, .int .i64 a1_6] 23 (0, 0)) (by (with_reducible repeat (first | refine blk_drewN ?_ _ | refine blk_drew ?_ | refine blk_alloc ?_ _)); exact BK191.out) hb); have n3_ := Aside0.mk (blk_below (g := gb200) (o := .cells #[.int .u8 t194, .string t195, .slice Ao22 t196.length co22] 27 (0, 0)) (by (with_reducible repeat (first | refine blk_drewN ?_ _ | refine blk_drew ?_ | refine blk_alloc ?_ _)); exact BK200.out) hb); have n4_ := Aside0.mk (blk_below (g := gb225) (o := .cells #[.int .u8 t219, .string t220, .slice Ao282 t221.length co282] 27 (0, 0)) (by (with_reducible repeat (first | refine blk_drewN ?_ _ | refine blk_drew ?_ | refine blk_alloc ?_ _)); exact BK225.out) hb); have n5_ := Aside0.mk (below_step (by repeat (first | (with_reducible first | exact HB.out | apply below_alloc | apply pw_below_drewN | apply below_drew1 | refine below_set ?_ GE191.out | refine below_set ?_ GE200.out | refine below_set ?_ GE225.out) | exact HB.out)) hb); clear HO_201002; clear HO223; clear BK191; clear BK200; clear BK225; clear HB; have HO_201002 := n0_; have HO223 := n1_; have BK191 := n2_; have BK200 := n3_; have BK225 := n4_; have HB := n5_; clear n0_ n1_ n2_ n3_ n4_ n5_; (try clear hb); (try clear hb2); (try clear hk); (try clear hi)))
                go_ret
                exact ⟨by first | rfl | (simp [errW_none, errW_some] <;> rfl) | (simp [*, errW_none, errW_some] <;> rfl), by repeat (first | (with_reducible first | exact HB.out | apply below_alloc | apply pw_below_drewN | apply below_drew1 | refine below_set ?_ GE191.out | refine below_set ?_ GE200.out | refine below_set ?_ GE225.out) | exact HB.out)⟩
              ·rw [if_neg c273] at H
               have c273b0 : (t220.toList == a0.toList) = false := beq_eq_false_iff_ne.mpr c273
               have c273b1 : (t220.toList != a0.toList) = true := bne_iff_ne.mpr c273
               exact absurd ((Option.some.inj H).trans hr_.out) (by decide)
             ·rw [if_neg c272] at H
              have c272b0 : (t219 == 4) = false := beq_eq_false_iff_ne.mpr c272
              have c272b1 : (t219 != 4) = true := bne_iff_ne.mpr c272
              exact absurd ((Option.some.inj H).trans hr_.out) (by decide)
            ·rw [if_neg c271] at H
             have c271b0 : ((t221.length : Int) == 1) = false := beq_eq_false_iff_ne.mpr c271
             have c271b1 : ((t221.length : Int) != 1) = true := bne_iff_ne.mpr c271
             exact absurd ((Option.some.inj H).trans hr_.out) (by decide)
           ·rw [if_neg c270] at H
            have c270b0 : (t226.toList == ([78, 69, 86, 69, 82] : List UInt8)) = false := beq_eq_false_iff_ne.mpr c270
            have c270b1 : (t226.toList != ([78, 69, 86, 69, 82] : List UInt8)) = true := bne_iff_ne.mpr c270
            exact absurd ((Option.some.inj H).trans hr_.out) (by decide)
          ·replace c269 := Bool.eq_false_iff.mpr c269
           subst c269
           have H1 : (if (t221.length : Int) = 0 then (if t219 = 4 then (if t220.toList = a0.toList then ((mailroomlaw07_shown.f t219 t220 t221 t224).bind fun t229 => (some (!t229.toList.isEmpty))) else (some false)) else (some false)) else (some false)) = some r := by rw [if_neg (show ¬ (false = true) by decide)] at H; exact H
           clear H
           have H := H1
           clear H1
           by_cases c330 : (t221.length : Int) = 0
           ·rw [if_pos c330] at H
            have c330b0 : ((t221.length : Int) == 0) = true := beq_iff_eq.mpr c330
            have c330b1 : ((t221.length : Int) != 0) = false := bne_eq_false_iff_eq.mpr c330
            clear c330
            by_cases c331 : t219 = 4
            ·rw [if_pos c331] at H
             have c331b0 : (t219 == 4) = true := beq_iff_eq.mpr c331
             have c331b1 : (t219 != 4) = false := bne_eq_false_iff_eq.mpr c331
             clear c331
             by_cases c332 : t220.toList = a0.toList
             ·rw [if_pos c332] at H
              have c332b0 : (t220.toList == a0.toList) = true := beq_iff_eq.mpr c332
              have c332b1 : (t220.toList != a0.toList) = false := bne_eq_false_iff_eq.mpr c332
              clear c332
              replace H := Option.bind_eq_some_iff.mp H
              obtain ⟨t229, A3330, H⟩ := H
              replace H : (some (!t229.toList.isEmpty)) = some r := H
              have A333 := Aside0.mk A3330
              clear A3330
              obtain rfl := Option.some.inj H
              have hnb334 := NB191_200.out
              have hnc334 := NB200_191.out
              have hcz335_0 : wc.cell? ⟨gb191, 0, none⟩ = some (.bool a1_0) := (blk_cell BK191.out 0).trans rfl
              have hcz335_1 : wc.cell? ⟨gb191, 1, none⟩ = some (.bool a1_1) := (blk_cell BK191.out 1).trans rfl
              have hcz335_2 : wc.cell? ⟨gb191, 2, none⟩ = some (.bool a1_2) := (blk_cell BK191.out 2).trans rfl
              have hcz335_3 : wc.cell? ⟨gb191, 3, none⟩ = some (.bool true) := (blk_cell BK191.out 3).trans rfl
              have hcz335_4 : wc.cell? ⟨gb191, 4, none⟩ = some (.bool a1_4) := (blk_cell BK191.out 4).trans rfl
              have hcz335_5 : wc.cell? ⟨gb191, 5, none⟩ = some (.bool a1_5) := (blk_cell BK191.out 5).trans rfl
              have hcz335_6 : wc.cell? ⟨gb191, 6, none⟩ = some (.int .i64 a1_6) := (blk_cell BK191.out 6).trans rfl
              have hfz335_0 := blk_frozen BK191.out 0
              have hfz335_1 := blk_frozen BK191.out 1
              have hfz335_2 := blk_frozen BK191.out 2
              have hfz335_3 := blk_frozen BK191.out 3
              have hfz335_4 := blk_frozen BK191.out 4
              have hfz335_5 := blk_frozen BK191.out 5
              have hfz335_6 := blk_frozen BK191.out 6
              as_aux_lemma =>
               go_wp2_with (first | ((with_reducible refine gate_callee (f := 11) rfl ?_); refine goesL_ (some 144) rfl rfl Tryd.func11 (by kernel_rfl) rfl #[.string a0, .agg #[.bool a1_0, .bool a1_1, .bool a1_2, .bool true, .bool a1_4, .bool a1_5, .int .i64 a1_6], .bool a5] rfl (by (try simp only [List.map_toArray, List.map_cons, List.map_nil]); first | done | rfl | (simp only [List.length_drop, List.length_take]; rfl)) ?_; (with_reducible refine (cmd_Rcpt.calls kj15 a0 a1_0 a1_1 a1_2 true a1_4 a1_5 a1_6 a5 t219 t220 t221 t224 _ A264.out).mono ?_); rintro e w336 ⟨v222, rfl, ho0, hb⟩; refine ⟨_, rfl, ?_⟩; have n0_ := Aside0.mk (Kd.R_elder' (by (with_reducible repeat (first | apply Kd.R_alloc | apply Kd.R_drewN | apply Kd.R_drew)); exact HO_201002.out) (Kd.R_base ho0) hb); have n1_ := Aside0.mk (Kd.R_lower (Kd.R_new' ho0 (Kd.R_lt (by (with_reducible repeat (first | apply Kd.R_alloc | apply Kd.R_drewN | apply Kd.R_drew)); exact HO_201002.out))) (below_size (by repeat (first | (with_reducible first | exact HB.out | apply below_alloc | apply pw_below_drewN | apply below_drew1 | refine below_set ?_ GE191.out | refine below_set ?_ GE200.out) | exact HB.out)))); have n2_ := Aside0.mk (blk_below (g := gb191) (o := .cells #[.bool a1_0, .bool a1_1, .bool a1_2, .bool true, .bool a1_4, .bool a1_5, .int .i64 a1_6] 23 (0, 0)) (by (with_reducible repeat (first | refine blk_drewN ?_ _ | refine blk_drew ?_ | refine blk_alloc ?_ _)); exact BK191.out) hb); have n3_ := Aside0.mk (blk_below (g := gb200) (o := .cells #[.int .u8 t194, .string t195, .slice Ao22 t196.length co22] 27 (0, 0)) (by (with_reducible repeat (first | refine blk_drewN ?_ _ | refine blk_drew ?_ | refine blk_alloc ?_ _)); exact BK200.out) hb); have n4_ := Aside0.mk (below_step (by repeat (first | (with_reducible first | exact HB.out | apply below_alloc | apply pw_below_drewN | apply below_drew1 | refine below_set ?_ GE191.out | refine below_set ?_ GE200.out) | exact HB.out)) hb); clear HO_201002; clear BK191; clear BK200; clear HB; have HO_201002 := n0_; have HO223 := n1_; have BK191 := n2_; have BK200 := n3_; have HB := n4_; clear n0_ n1_ n2_ n3_ n4_; (try clear hb); (try clear hb2); (try clear hk); (try clear hi); (try clear ho0)) | ((with_reducible refine gate_dst (N := 24) rfl ?_); (try (refine gate_guard (by rfl) ?_; dsimp only)); refine box_event ?hg (N := 24) ?hd (cs := #[.int .u8 0, .string (⟨#[]⟩ : ByteArray), .slice none 0 0]) (t := 27) ?hr ?_; (case hd => rfl); (case hg => rfl); (case hr => first | (go_simp; done) | (go_simp; rfl)); intro gb225 hg w337 hbox hb; have n0_ := Aside0.mk (Kd.R_below (by (with_reducible repeat (first | apply Kd.R_alloc | apply Kd.R_drewN | apply Kd.R_drew)); exact HO_201002.out) hb); have n1_ := Aside0.mk (Kd.R_below (by (with_reducible repeat (first | apply Kd.R_alloc | apply Kd.R_drewN | apply Kd.R_drew)); exact HO223.out) hb); have n2_ := Aside0.mk (blk_below (g := gb191) (o := .cells #[.bool a1_0, .bool a1_1, .bool a1_2, .bool true, .bool a1_4, .bool a1_5, .int .i64 a1_6] 23 (0, 0)) (by (with_reducible repeat (first | refine blk_drewN ?_ _ | refine blk_drew ?_ | refine blk_alloc ?_ _)); exact BK191.out) hb); have n3_ := Aside0.mk (blk_below (g := gb200) (o := .cells #[.int .u8 t194, .string t195, .slice Ao22 t196.length co22] 27 (0, 0)) (by (with_reducible repeat (first | refine blk_drewN ?_ _ | refine blk_drew ?_ | refine blk_alloc ?_ _)); exact BK200.out) hb); have n4_ := Aside0.mk (below_step (by repeat (first | (with_reducible first | exact HB.out | apply below_alloc | apply pw_below_drewN | apply below_drew1 | refine below_set ?_ GE191.out | refine below_set ?_ GE200.out) | exact HB.out)) hb); have n5_ := Aside0.mk (hbox); have n6_ := Aside0.mk ((by rw [hg]; exact (below_size (by repeat (first | (with_reducible first | exact HB.out | apply below_alloc | apply pw_below_drewN | apply below_drew1 | refine below_set ?_ GE191.out | refine below_set ?_ GE200.out) | exact HB.out))) : w.heap.size ≤ gb225)); have n7_ := Aside0.mk ((by rw [hg]; exact (below_size (by repeat (first | (with_reducible first | exact HB.out | apply below_alloc | apply pw_below_drewN | apply below_drew1 | refine below_set ?_ GE191.out | refine below_set ?_ GE200.out) | exact HB.out))) : w.heap.size ≤ gb225)); have n8_ := Aside0.mk ((by rw [hg]; exact Nat.ne_of_lt (blk_lt (g := gb191) (o := .cells #[.bool a1_0, .bool a1_1, .bool a1_2, .bool true, .bool a1_4, .bool a1_5, .int .i64 a1_6] 23 (0, 0)) (by (with_reducible repeat (first | refine blk_drewN ?_ _ | refine blk_drew ?_ | refine blk_alloc ?_ _)); exact BK191.out)) : gb191 ≠ gb225)); have n9_ := Aside0.mk ((by rw [hg]; exact Nat.ne_of_gt (blk_lt (g := gb191) (o := .cells #[.bool a1_0, .bool a1_1, .bool a1_2, .bool true, .bool a1_4, .bool a1_5, .int .i64 a1_6] 23 (0, 0)) (by (with_reducible repeat (first | refine blk_drewN ?_ _ | refine blk_drew ?_ | refine blk_alloc ?_ _)); exact BK191.out)) : gb225 ≠ gb191)); have n10_ := Aside0.mk ((by rw [hg]; exact Nat.ne_of_lt (blk_lt (g := gb200) (o := .cells #[.int .u8 t194, .string t195, .slice Ao22 t196.length co22] 27 (0, 0)) (by (with_reducible repeat (first | refine blk_drewN ?_ _ | refine blk_drew ?_ | refine blk_alloc ?_ _)); exact BK200.out)) : gb200 ≠ gb225)); have n11_ := Aside0.mk ((by rw [hg]; exact Nat.ne_of_gt (blk_lt (g := gb200) (o := .cells #[.int .u8 t194, .string t195, .slice Ao22 t196.length co22] 27 (0, 0)) (by (with_reducible repeat (first | refine blk_drewN ?_ _ | refine blk_drew ?_ | refine blk_alloc ?_ _)); exact BK200.out)) : gb225 ≠ gb200)); clear HO_201002; clear HO223; clear BK191; clear BK200; clear HB; have HO_201002 := n0_; have HO223 := n1_; have BK191 := n2_; have BK200 := n3_; have HB := n4_; have BK225 := n5_; have GW225 := n6_; have GE225 := n7_; have NB191_225 := n8_; have NB225_191 := n9_; have NB200_225 := n10_; have NB225_200 := n11_; clear n0_ n1_ n2_ n3_ n4_ n5_ n6_ n7_ n8_ n9_ n10_ n11_; clear hb hbox hg; have hnb338 := NB225_191.out; have hnc338 := NB191_225.out; have hnb339 := NB225_200.out; have hnc339 := NB200_225.out; have hcz340_0 : w337.cell? ⟨gb225, 0, none⟩ = some (.int .u8 0) := (blk_cell BK225.out 0).trans rfl; have hcz340_1 : w337.cell? ⟨gb225, 1, none⟩ = some (.string (⟨#[]⟩ : ByteArray)) := (blk_cell BK225.out 1).trans rfl; have hcz340_2 : w337.cell? ⟨gb225, 2, none⟩ = some (.slice none 0 0) := (blk_cell BK225.out 2).trans rfl; have hfz340_0 := blk_frozen BK225.out 0; have hfz340_1 := blk_frozen BK225.out 1; have hfz340_2 := blk_frozen BK225.out 2; obtain ⟨Ao341, co341, eo341⟩ := Kd.R_slice HO223.out; subst eo341) | ((with_reducible refine gate_callee (f := 9) rfl ?_); refine goesL_ (some 158) rfl rfl Tryd.func9 (by kernel_rfl) rfl #[.agg #[.int .u8 t219, .string t220, .slice Ao341 t221.length co341], .string (⟨#[78, 79, 84, 73, 70, 89]⟩ : ByteArray)] rfl (by (try simp only [List.map_toArray, List.map_cons, List.map_nil]); first | done | rfl | (simp only [List.length_drop, List.length_take]; rfl)) ?_; (with_reducible refine (cmd_Get.calls kj15 t219 t220 _ _ t221 (⟨#[78, 79, 84, 73, 70, 89]⟩ : ByteArray) t226 false _ ?side1 ?side2 A266.out).mono ?_); (case side1 => refine (Kd.R_reads' (e := 49) (base := w.heap.size) (ok := fun k_ => (True ∧ some k_ ≠ (.slice Ao22 t196.length co22 : Value).ownBlock)) (n := t221.length) (c := co341) ?_).2.2; exact (by (with_reducible repeat (first | apply Kd.R_alloc | apply Kd.R_drewN | apply Kd.R_drew)); exact (Kd.R_mono (Kd.R_far (p := ⟨gb225, 2, none⟩) (Kd.R_far (p := ⟨gb225, 1, none⟩) (Kd.R_far (p := ⟨gb225, 0, none⟩) (Kd.R_types HO223.out BK225.out (by decide)) (fun _ hk => hk.2) (.int .u8 t219)) (fun _ hk => hk.2) (.string t220)) (fun _ hk => hk.2) (.slice Ao341 t221.length co341)) (fun _ h_ => h_.1)))); (case side2 => exact (Kd.R_reads' HO223.out).2.1); rintro e w342 ⟨rfl, hb⟩; refine ⟨_, rfl, ?_⟩; have n0_ := Aside0.mk (Kd.R_below (by (with_reducible repeat (first | apply Kd.R_alloc | apply Kd.R_drewN | apply Kd.R_drew)); exact (Kd.R_mono (Kd.R_far (p := ⟨gb225, 2, none⟩) (Kd.R_far (p := ⟨gb225, 1, none⟩) (Kd.R_far (p := ⟨gb225, 0, none⟩) (Kd.R_types HO_201002.out BK225.out (by decide)) (fun _ hk => hk.2) (.int .u8 t219)) (fun _ hk => hk.2) (.string t220)) (fun _ hk => hk.2) (.slice Ao341 t221.length co341)) (fun _ h_ => h_.1))) hb); have n1_ := Aside0.mk (Kd.R_below (by (with_reducible repeat (first | apply Kd.R_alloc | apply Kd.R_drewN | apply Kd.R_drew)); exact (Kd.R_mono (Kd.R_far (p := ⟨gb225, 2, none⟩) (Kd.R_far (p := ⟨gb225, 1, none⟩) (Kd.R_far (p := ⟨gb225, 0, none⟩) (Kd.R_types HO223.out BK225.out (by decide)) (fun _ hk => hk.2) (.int .u8 t219)) (fun _ hk => hk.2) (.string t220)) (fun _ hk => hk.2) (.slice Ao341 t221.length co341)) (fun _ h_ => h_.1))) hb); have n2_ := Aside0.mk (blk_below (g := gb191) (o := .cells #[.bool a1_0, .bool a1_1, .bool a1_2, .bool true, .bool a1_4, .bool a1_5, .int .i64 a1_6] 23 (0, 0)) (by (with_reducible repeat (first | refine blk_drewN ?_ _ | refine blk_drew ?_ | refine blk_alloc ?_ _)); refine blk_far ?_ NB191_225.out _; (with_reducible repeat (first | refine blk_drewN ?_ _ | refine blk_drew ?_ | refine blk_alloc ?_ _)); refine blk_far ?_ NB191_225.out _; (with_reducible repeat (first | refine blk_drewN ?_ _ | refine blk_drew ?_ | refine blk_alloc ?_ _)); refine blk_far ?_ NB191_225.out _; (with_reducible repeat (first | refine blk_drewN ?_ _ | refine blk_drew ?_ | refine blk_alloc ?_ _)); exact BK191.out) hb); have n3_ := Aside0.mk (blk_below (g := gb200) (o := .cells #[.int .u8 t194, .string t195, .slice Ao22 t196.length co22] 27 (0, 0)) (by (with_reducible repeat (first | refine blk_drewN ?_ _ | refine blk_drew ?_ | refine blk_alloc ?_ _)); refine blk_far ?_ NB200_225.out _; (with_reducible repeat (first | refine blk_drewN ?_ _ | refine blk_drew ?_ | refine blk_alloc ?_ _)); refine blk_far ?_ NB200_225.out _; (with_reducible repeat (first | refine blk_drewN ?_ _ | refine blk_drew ?_ | refine blk_alloc ?_ _)); refine blk_far ?_ NB200_225.out _; (with_reducible repeat (first | refine blk_drewN ?_ _ | refine blk_drew ?_ | refine blk_alloc ?_ _)); exact BK200.out) hb); have n4_ := Aside0.mk (blk_below (g := gb225) (o := .cells #[.int .u8 t219, .string t220, .slice Ao341 t221.length co341] 27 (0, 0)) (by (with_reducible repeat (first | refine blk_drewN ?_ _ | refine blk_drew ?_ | refine blk_alloc ?_ _)); refine blk_put (cs := #[.int .u8 t219, .string t220, .slice none 0 0]) ?_ 2 _ rfl; (with_reducible repeat (first | refine blk_drewN ?_ _ | refine blk_drew ?_ | refine blk_alloc ?_ _)); refine blk_put (cs := #[.int .u8 t219, .string (⟨#[]⟩ : ByteArray), .slice none 0 0]) ?_ 1 _ rfl; (with_reducible repeat (first | refine blk_drewN ?_ _ | refine blk_drew ?_ | refine blk_alloc ?_ _)); refine blk_put (cs := #[.int .u8 0, .string (⟨#[]⟩ : ByteArray), .slice none 0 0]) ?_ 0 _ rfl; (with_reducible repeat (first | refine blk_drewN ?_ _ | refine blk_drew ?_ | refine blk_alloc ?_ _)); exact BK225.out) hb); have n5_ := Aside0.mk (below_step (by repeat (first | (with_reducible first | exact HB.out | apply below_alloc | apply pw_below_drewN | apply below_drew1 | refine below_set ?_ GE191.out | refine below_set ?_ GE200.out | refine below_set ?_ GE225.out) | exact HB.out)) hb); clear HO_201002; clear HO223; clear BK191; clear BK200; clear BK225; clear HB; have HO_201002 := n0_; have HO223 := n1_; have BK191 := n2_; have BK200 := n3_; have BK225 := n4_; have HB := n5_; clear n0_ n1_ n2_ n3_ n4_ n5_; (try clear hb); (try clear hb2); (try clear hk); (try clear hi); have hcz343_0 : w342.cell? ⟨gb191, 0, none⟩ = some (.bool a1_0) := (blk_cell BK191.out 0).trans rfl; have hcz343_1 : w342.cell? ⟨gb191, 1, none⟩ = some (.bool a1_1) := (blk_cell BK191.out 1).trans rfl; have hcz343_2 : w342.cell? ⟨gb191, 2, none⟩ = some (.bool a1_2) := (blk_cell BK191.out 2).trans rfl; have hcz343_3 : w342.cell? ⟨gb191, 3, none⟩ = some (.bool true) := (blk_cell BK191.out 3).trans rfl; have hcz343_4 : w342.cell? ⟨gb191, 4, none⟩ = some (.bool a1_4) := (blk_cell BK191.out 4).trans rfl; have hcz343_5 : w342.cell? ⟨gb191, 5, none⟩ = some (.bool a1_5) := (blk_cell BK191.out 5).trans rfl; have hcz343_6 : w342.cell? ⟨gb191, 6, none⟩ = some (.int .i64 a1_6) := (blk_cell BK191.out 6).trans rfl; have hfz343_0 := blk_frozen BK191.out 0; have hfz343_1 := blk_frozen BK191.out 1; have hfz343_2 := blk_frozen BK191.out 2; have hfz343_3 := blk_frozen BK191.out 3; have hfz343_4 := blk_frozen BK191.out 4; have hfz343_5 := blk_frozen BK191.out 5; have hfz343_6 := blk_frozen BK191.out 6; have hcz344_0 : w342.cell? ⟨gb225, 0, none⟩ = some (.int .u8 t219) := (blk_cell BK225.out 0).trans rfl; have hcz344_1 : w342.cell? ⟨gb225, 1, none⟩ = some (.string t220) := (blk_cell BK225.out 1).trans rfl; have hcz344_2 : w342.cell? ⟨gb225, 2, none⟩ = some (.slice Ao341 t221.length co341) := (blk_cell BK225.out 2).trans rfl; have hfz344_0 := blk_frozen BK225.out 0; have hfz344_1 := blk_frozen BK225.out 1; have hfz344_2 := blk_frozen BK225.out 2) | (go_at_call 10; (with_reducible refine (mailroomlaw07_shown.calls t219 t220 _ _ t221 t224 t229 _ ?side1 ?side2 A333.out).mono ?_); (case side1 => repeat (first | exact (Kd.R_reads' HO223.out).2.2 | (with_reducible refine Kd.C_alloc ?_ _) | (with_reducible refine Kd.C_drewN ?_ _) | (with_reducible refine Kd.C_drew ?_))); (case side2 => exact (Kd.R_reads' HO223.out).2.1); rintro e w345 ⟨rfl, hb⟩; have n0_ := Aside0.mk (Kd.R_below (by (with_reducible repeat (first | apply Kd.R_alloc | apply Kd.R_drewN | apply Kd.R_drew)); exact HO_201002.out) hb); have n1_ := Aside0.mk (Kd.R_below (by (with_reducible repeat (first | apply Kd.R_alloc | apply Kd.R_drewN | apply Kd.R_drew)); exact HO223.out) hb); have n2_ := Aside0.mk (blk_below (g := gb191) (o := .cells #[.bool a1_0, .bool a1_1, .bool a1_2, .bool true, .bool a1_4, .bool a1_5, .int .i64 a1_6] 23 (0, 0)) (by (with_reducible repeat (first | refine blk_drewN ?_ _ | refine blk_drew ?_ | refine blk_alloc ?_ _)); exact BK191.out) hb); have n3_ := Aside0.mk (blk_below (g := gb200) (o := .cells #[.int .u8 t194, .string t195, .slice Ao22 t196.length co22] 27 (0, 0)) (by (with_reducible repeat (first | refine blk_drewN ?_ _ | refine blk_drew ?_ | refine blk_alloc ?_ _)); exact BK200.out) hb); have n4_ := Aside0.mk (blk_below (g := gb225) (o := .cells #[.int .u8 t219, .string t220, .slice Ao341 t221.length co341] 27 (0, 0)) (by (with_reducible repeat (first | refine blk_drewN ?_ _ | refine blk_drew ?_ | refine blk_alloc ?_ _)); exact BK225.out) hb); have n5_ := Aside0.mk (below_step (by repeat (first | (with_reducible first | exact HB.out | apply below_alloc | apply pw_below_drewN | apply below_drew1 | refine below_set ?_ GE191.out | refine below_set ?_ GE200.out | refine below_set ?_ GE225.out) | exact HB.out)) hb); clear HO_201002; clear HO223; clear BK191; clear BK200; clear BK225; clear HB; have HO_201002 := n0_; have HO223 := n1_; have BK191 := n2_; have BK200 := n3_; have BK225 := n4_; have HB := n5_; clear n0_ n1_ n2_ n3_ n4_ n5_; (try clear hb); (try clear hb2); (try clear hk); (try clear hi)))
               go_ret
               exact ⟨by first | rfl | (simp [errW_none, errW_some] <;> rfl) | (simp [*, errW_none, errW_some] <;> rfl), by repeat (first | (with_reducible first | exact HB.out | apply below_alloc | apply pw_below_drewN | apply below_drew1 | refine below_set ?_ GE191.out | refine below_set ?_ GE200.out | refine below_set ?_ GE225.out) | exact HB.out)⟩
             ·rw [if_neg c332] at H
              have c332b0 : (t220.toList == a0.toList) = false := beq_eq_false_iff_ne.mpr c332
              have c332b1 : (t220.toList != a0.toList) = true := bne_iff_ne.mpr c332
              exact absurd ((Option.some.inj H).trans hr_.out) (by decide)
            ·rw [if_neg c331] at H
             have c331b0 : (t219 == 4) = false := beq_eq_false_iff_ne.mpr c331
             have c331b1 : (t219 != 4) = true := bne_iff_ne.mpr c331
             exact absurd ((Option.some.inj H).trans hr_.out) (by decide)
           ·rw [if_neg c330] at H
            have c330b0 : ((t221.length : Int) == 0) = false := beq_eq_false_iff_ne.mpr c330
            have c330b1 : ((t221.length : Int) != 0) = true := bne_iff_ne.mpr c330
            have c330b2 : ¬ (t221 = []) := fun h_ => c330 (by rw [h_]; rfl)
            exact absurd ((Option.some.inj H).trans hr_.out) (by decide)
         ·rw [if_neg c268] at H
          have c268b0 : (t227 == a5) = false := by simpa using c268
          (try (have c268b1 : decide (t227 = a5) = false := by simpa using c268))
          (try (have c268b2 : (t227 == a5) = false := by simpa using c268))
          (try (have c268b3 : ¬ (t227 = a5) := by simpa using c268))
          clear c268
          exact absurd ((Option.some.inj H).trans hr_.out) (by decide)
        ·replace c267 := Bool.eq_false_iff.mpr c267
         subst c267
         have H1 : (if (t227 == false) = true then (if t227 = true then (if t226.toList = ([78, 69, 86, 69, 82] : List UInt8) then (if (t221.length : Int) = 1 then (if t219 = 4 then (if t220.toList = a0.toList then ((mailroomlaw07_shown.f t219 t220 t221 t224).bind fun t230 => (some (!t230.toList.isEmpty))) else (some false)) else (some false)) else (some false)) else (some false)) else (if (t221.length : Int) = 0 then (if t219 = 4 then (if t220.toList = a0.toList then ((mailroomlaw07_shown.f t219 t220 t221 t224).bind fun t231 => (some (!t231.toList.isEmpty))) else (some false)) else (some false)) else (some false))) else (some false)) = some r := by rw [if_neg (show ¬ (false = true) by decide)] at H; exact H
         clear H
         have H := H1
         clear H1
         by_cases c389 : (t227 == false) = true
         ·rw [if_pos c389] at H
          have c389b0 : (t227 == false) = true := c389
          (try (have c389b1 : decide (t227 = false) = true := by simpa using c389))
          (try (have c389b2 : (t227 == false) = true := by simpa using c389))
          clear c389
          by_cases c390 : t227 = true
          ·subst c390
           have H1 : (if t226.toList = ([78, 69, 86, 69, 82] : List UInt8) then (if (t221.length : Int) = 1 then (if t219 = 4 then (if t220.toList = a0.toList then ((mailroomlaw07_shown.f t219 t220 t221 t224).bind fun t230 => (some (!t230.toList.isEmpty))) else (some false)) else (some false)) else (some false)) else (some false)) = some r := by rw [if_pos rfl] at H; exact H
           clear H
           have H := H1
           clear H1
           by_cases c391 : t226.toList = ([78, 69, 86, 69, 82] : List UInt8)
           ·rw [if_pos c391] at H
            have c391b0 : (t226.toList == ([78, 69, 86, 69, 82] : List UInt8)) = true := beq_iff_eq.mpr c391
            have c391b1 : (t226.toList != ([78, 69, 86, 69, 82] : List UInt8)) = false := bne_eq_false_iff_eq.mpr c391
            clear c391
            by_cases c392 : (t221.length : Int) = 1
            ·rw [if_pos c392] at H
             have c392b0 : ((t221.length : Int) == 1) = true := beq_iff_eq.mpr c392
             have c392b1 : ((t221.length : Int) != 1) = false := bne_eq_false_iff_eq.mpr c392
             clear c392
             by_cases c393 : t219 = 4
             ·rw [if_pos c393] at H
              have c393b0 : (t219 == 4) = true := beq_iff_eq.mpr c393
              have c393b1 : (t219 != 4) = false := bne_eq_false_iff_eq.mpr c393
              clear c393
              by_cases c394 : t220.toList = a0.toList
              ·rw [if_pos c394] at H
               have c394b0 : (t220.toList == a0.toList) = true := beq_iff_eq.mpr c394
               have c394b1 : (t220.toList != a0.toList) = false := bne_eq_false_iff_eq.mpr c394
               clear c394
               replace H := Option.bind_eq_some_iff.mp H
               obtain ⟨t230, A3950, H⟩ := H
               replace H : (some (!t230.toList.isEmpty)) = some r := H
               have A395 := Aside0.mk A3950
               clear A3950
               obtain rfl := Option.some.inj H
               have hnb396 := NB191_200.out
               have hnc396 := NB200_191.out
               have hcz397_0 : wc.cell? ⟨gb191, 0, none⟩ = some (.bool a1_0) := (blk_cell BK191.out 0).trans rfl
               have hcz397_1 : wc.cell? ⟨gb191, 1, none⟩ = some (.bool a1_1) := (blk_cell BK191.out 1).trans rfl
               have hcz397_2 : wc.cell? ⟨gb191, 2, none⟩ = some (.bool a1_2) := (blk_cell BK191.out 2).trans rfl
               have hcz397_3 : wc.cell? ⟨gb191, 3, none⟩ = some (.bool false) := (blk_cell BK191.out 3).trans rfl
               have hcz397_4 : wc.cell? ⟨gb191, 4, none⟩ = some (.bool a1_4) := (blk_cell BK191.out 4).trans rfl
               have hcz397_5 : wc.cell? ⟨gb191, 5, none⟩ = some (.bool a1_5) := (blk_cell BK191.out 5).trans rfl
               have hcz397_6 : wc.cell? ⟨gb191, 6, none⟩ = some (.int .i64 a1_6) := (blk_cell BK191.out 6).trans rfl
               have hfz397_0 := blk_frozen BK191.out 0
               have hfz397_1 := blk_frozen BK191.out 1
               have hfz397_2 := blk_frozen BK191.out 2
               have hfz397_3 := blk_frozen BK191.out 3
               have hfz397_4 := blk_frozen BK191.out 4
               have hfz397_5 := blk_frozen BK191.out 5
               have hfz397_6 := blk_frozen BK191.out 6
               as_aux_lemma =>
                go_wp2_with (first | ((with_reducible refine gate_callee (f := 11) rfl ?_); refine goesL_ (some 144) rfl rfl Tryd.func11 (by kernel_rfl) rfl #[.string a0, .agg #[.bool a1_0, .bool a1_1, .bool a1_2, .bool false, .bool a1_4, .bool a1_5, .int .i64 a1_6], .bool a5] rfl (by (try simp only [List.map_toArray, List.map_cons, List.map_nil]); first | done | rfl | (simp only [List.length_drop, List.length_take]; rfl)) ?_; (with_reducible refine (cmd_Rcpt.calls kj15 a0 a1_0 a1_1 a1_2 false a1_4 a1_5 a1_6 a5 t219 t220 t221 t224 _ A264.out).mono ?_); rintro e w398 ⟨v222, rfl, ho0, hb⟩; refine ⟨_, rfl, ?_⟩; have n0_ := Aside0.mk (Kd.R_elder' (by (with_reducible repeat (first | apply Kd.R_alloc | apply Kd.R_drewN | apply Kd.R_drew)); exact HO_201002.out) (Kd.R_base ho0) hb); have n1_ := Aside0.mk (Kd.R_lower (Kd.R_new' ho0 (Kd.R_lt (by (with_reducible repeat (first | apply Kd.R_alloc | apply Kd.R_drewN | apply Kd.R_drew)); exact HO_201002.out))) (below_size (by repeat (first | (with_reducible first | exact HB.out | apply below_alloc | apply pw_below_drewN | apply below_drew1 | refine below_set ?_ GE191.out | refine below_set ?_ GE200.out) | exact HB.out)))); have n2_ := Aside0.mk (blk_below (g := gb191) (o := .cells #[.bool a1_0, .bool a1_1, .bool a1_2, .bool false, .bool a1_4, .bool a1_5, .int .i64 a1_6] 23 (0, 0)) (by (with_reducible repeat (first | refine blk_drewN ?_ _ | refine blk_drew ?_ | refine blk_alloc ?_ _)); exact BK191.out) hb); have n3_ := Aside0.mk (blk_below (g := gb200) (o := .cells #[.int .u8 t194, .string t195, .slice Ao22 t196.length co22] 27 (0, 0)) (by (with_reducible repeat (first | refine blk_drewN ?_ _ | refine blk_drew ?_ | refine blk_alloc ?_ _)); exact BK200.out) hb); have n4_ := Aside0.mk (below_step (by repeat (first | (with_reducible first | exact HB.out | apply below_alloc | apply pw_below_drewN | apply below_drew1 | refine below_set ?_ GE191.out | refine below_set ?_ GE200.out) | exact HB.out)) hb); clear HO_201002; clear BK191; clear BK200; clear HB; have HO_201002 := n0_; have HO223 := n1_; have BK191 := n2_; have BK200 := n3_; have HB := n4_; clear n0_ n1_ n2_ n3_ n4_; (try clear hb); (try clear hb2); (try clear hk); (try clear hi); (try clear ho0)) | ((with_reducible refine gate_dst (N := 24) rfl ?_); (try (refine gate_guard (by rfl) ?_; dsimp only)); refine box_event ?hg (N := 24) ?hd (cs := #[.int .u8 0, .string (⟨#[]⟩ : ByteArray), .slice none 0 0]) (t := 27) ?hr ?_; (case hd => rfl); (case hg => rfl); (case hr => first | (go_simp; done) | (go_simp; rfl)); intro gb225 hg w399 hbox hb; have n0_ := Aside0.mk (Kd.R_below (by (with_reducible repeat (first | apply Kd.R_alloc | apply Kd.R_drewN | apply Kd.R_drew)); exact HO_201002.out) hb); have n1_ := Aside0.mk (Kd.R_below (by (with_reducible repeat (first | apply Kd.R_alloc | apply Kd.R_drewN | apply Kd.R_drew)); exact HO223.out) hb); have n2_ := Aside0.mk (blk_below (g := gb191) (o := .cells #[.bool a1_0, .bool a1_1, .bool a1_2, .bool false, .bool a1_4, .bool a1_5, .int .i64 a1_6] 23 (0, 0)) (by (with_reducible repeat (first | refine blk_drewN ?_ _ | refine blk_drew ?_ | refine blk_alloc ?_ _)); exact BK191.out) hb); have n3_ := Aside0.mk (blk_below (g := gb200) (o := .cells #[.int .u8 t194, .string t195, .slice Ao22 t196.length co22] 27 (0, 0)) (by (with_reducible repeat (first | refine blk_drewN ?_ _ | refine blk_drew ?_ | refine blk_alloc ?_ _)); exact BK200.out) hb); have n4_ := Aside0.mk (below_step (by repeat (first | (with_reducible first | exact HB.out | apply below_alloc | apply pw_below_drewN | apply below_drew1 | refine below_set ?_ GE191.out | refine below_set ?_ GE200.out) | exact HB.out)) hb); have n5_ := Aside0.mk (hbox); have n6_ := Aside0.mk ((by rw [hg]; exact (below_size (by repeat (first | (with_reducible first | exact HB.out | apply below_alloc | apply pw_below_drewN | apply below_drew1 | refine below_set ?_ GE191.out | refine below_set ?_ GE200.out) | exact HB.out))) : w.heap.size ≤ gb225)); have n7_ := Aside0.mk ((by rw [hg]; exact (below_size (by repeat (first | (with_reducible first | exact HB.out | apply below_alloc | apply pw_below_drewN | apply below_drew1 | refine below_set ?_ GE191.out | refine below_set ?_ GE200.out) | exact HB.out))) : w.heap.size ≤ gb225)); have n8_ := Aside0.mk ((by rw [hg]; exact Nat.ne_of_lt (blk_lt (g := gb191) (o := .cells #[.bool a1_0, .bool a1_1, .bool a1_2, .bool false, .bool a1_4, .bool a1_5, .int .i64 a1_6] 23 (0, 0)) (by (with_reducible repeat (first | refine blk_drewN ?_ _ | refine blk_drew ?_ | refine blk_alloc ?_ _)); exact BK191.out)) : gb191 ≠ gb225)); have n9_ := Aside0.mk ((by rw [hg]; exact Nat.ne_of_gt (blk_lt (g := gb191) (o := .cells #[.bool a1_0, .bool a1_1, .bool a1_2, .bool false, .bool a1_4, .bool a1_5, .int .i64 a1_6] 23 (0, 0)) (by (with_reducible repeat (first | refine blk_drewN ?_ _ | refine blk_drew ?_ | refine blk_alloc ?_ _)); exact BK191.out)) : gb225 ≠ gb191)); have n10_ := Aside0.mk ((by rw [hg]; exact Nat.ne_of_lt (blk_lt (g := gb200) (o := .cells #[.int .u8 t194, .string t195, .slice Ao22 t196.length co22] 27 (0, 0)) (by (with_reducible repeat (first | refine blk_drewN ?_ _ | refine blk_drew ?_ | refine blk_alloc ?_ _)); exact BK200.out)) : gb200 ≠ gb225)); have n11_ := Aside0.mk ((by rw [hg]; exact Nat.ne_of_gt (blk_lt (g := gb200) (o := .cells #[.int .u8 t194, .string t195, .slice Ao22 t196.length co22] 27 (0, 0)) (by (with_reducible repeat (first | refine blk_drewN ?_ _ | refine blk_drew ?_ | refine blk_alloc ?_ _)); exact BK200.out)) : gb225 ≠ gb200)); clear HO_201002; clear HO223; clear BK191; clear BK200; clear HB; have HO_201002 := n0_; have HO223 := n1_; have BK191 := n2_; have BK200 := n3_; have HB := n4_; have BK225 := n5_; have GW225 := n6_; have GE225 := n7_; have NB191_225 := n8_; have NB225_191 := n9_; have NB200_225 := n10_; have NB225_200 := n11_; clear n0_ n1_ n2_ n3_ n4_ n5_ n6_ n7_ n8_ n9_ n10_ n11_; clear hb hbox hg; have hnb400 := NB225_191.out; have hnc400 := NB191_225.out; have hnb401 := NB225_200.out; have hnc401 := NB200_225.out; have hcz402_0 : w399.cell? ⟨gb225, 0, none⟩ = some (.int .u8 0) := (blk_cell BK225.out 0).trans rfl; have hcz402_1 : w399.cell? ⟨gb225, 1, none⟩ = some (.string (⟨#[]⟩ : ByteArray)) := (blk_cell BK225.out 1).trans rfl; have hcz402_2 : w399.cell? ⟨gb225, 2, none⟩ = some (.slice none 0 0) := (blk_cell BK225.out 2).trans rfl; have hfz402_0 := blk_frozen BK225.out 0; have hfz402_1 := blk_frozen BK225.out 1; have hfz402_2 := blk_frozen BK225.out 2; obtain ⟨Ao403, co403, eo403⟩ := Kd.R_slice HO223.out; subst eo403) | ((with_reducible refine gate_callee (f := 9) rfl ?_); refine goesL_ (some 158) rfl rfl Tryd.func9 (by kernel_rfl) rfl #[.agg #[.int .u8 t219, .string t220, .slice Ao403 t221.length co403], .string (⟨#[78, 79, 84, 73, 70, 89]⟩ : ByteArray)] rfl (by (try simp only [List.map_toArray, List.map_cons, List.map_nil]); first | done | rfl | (simp only [List.length_drop, List.length_take]; rfl)) ?_; (with_reducible refine (cmd_Get.calls kj15 t219 t220 _ _ t221 (⟨#[78, 79, 84, 73, 70, 89]⟩ : ByteArray) t226 true _ ?side1 ?side2 A266.out).mono ?_); (case side1 => refine (Kd.R_reads' (e := 49) (base := w.heap.size) (ok := fun k_ => (True ∧ some k_ ≠ (.slice Ao22 t196.length co22 : Value).ownBlock)) (n := t221.length) (c := co403) ?_).2.2; exact (by (with_reducible repeat (first | apply Kd.R_alloc | apply Kd.R_drewN | apply Kd.R_drew)); exact (Kd.R_mono (Kd.R_far (p := ⟨gb225, 2, none⟩) (Kd.R_far (p := ⟨gb225, 1, none⟩) (Kd.R_far (p := ⟨gb225, 0, none⟩) (Kd.R_types HO223.out BK225.out (by decide)) (fun _ hk => hk.2) (.int .u8 t219)) (fun _ hk => hk.2) (.string t220)) (fun _ hk => hk.2) (.slice Ao403 t221.length co403)) (fun _ h_ => h_.1)))); (case side2 => exact (Kd.R_reads' HO223.out).2.1); rintro e w404 ⟨rfl, hb⟩; refine ⟨_, rfl, ?_⟩; have n0_ := Aside0.mk (Kd.R_below (by (with_reducible repeat (first | apply Kd.R_alloc | apply Kd.R_drewN | apply Kd.R_drew)); exact (Kd.R_mono (Kd.R_far (p := ⟨gb225, 2, none⟩) (Kd.R_far (p := ⟨gb225, 1, none⟩) (Kd.R_far (p := ⟨gb225, 0, none⟩) (Kd.R_types HO_201002.out BK225.out (by decide)) (fun _ hk => hk.2) (.int .u8 t219)) (fun _ hk => hk.2) (.string t220)) (fun _ hk => hk.2) (.slice Ao403 t221.length co403)) (fun _ h_ => h_.1))) hb); have n1_ := Aside0.mk (Kd.R_below (by (with_reducible repeat (first | apply Kd.R_alloc | apply Kd.R_drewN | apply Kd.R_drew)); exact (Kd.R_mono (Kd.R_far (p := ⟨gb225, 2, none⟩) (Kd.R_far (p := ⟨gb225, 1, none⟩) (Kd.R_far (p := ⟨gb225, 0, none⟩) (Kd.R_types HO223.out BK225.out (by decide)) (fun _ hk => hk.2) (.int .u8 t219)) (fun _ hk => hk.2) (.string t220)) (fun _ hk => hk.2) (.slice Ao403 t221.length co403)) (fun _ h_ => h_.1))) hb); have n2_ := Aside0.mk (blk_below (g := gb191) (o := .cells #[.bool a1_0, .bool a1_1, .bool a1_2, .bool false, .bool a1_4, .bool a1_5, .int .i64 a1_6] 23 (0, 0)) (by (with_reducible repeat (first | refine blk_drewN ?_ _ | refine blk_drew ?_ | refine blk_alloc ?_ _)); refine blk_far ?_ NB191_225.out _; (with_reducible repeat (first | refine blk_drewN ?_ _ | refine blk_drew ?_ | refine blk_alloc ?_ _)); refine blk_far ?_ NB191_225.out _; (with_reducible repeat (first | refine blk_drewN ?_ _ | refine blk_drew ?_ | refine blk_alloc ?_ _)); refine blk_far ?_ NB191_225.out _; (with_reducible repeat (first | refine blk_drewN ?_ _ | refine blk_drew ?_ | refine blk_alloc ?_ _)); exact BK191.out) hb); have n3_ := Aside0.mk (blk_below (g := gb200) (o := .cells #[.int .u8 t194, .string t195, .slice Ao22 t196.length co22] 27 (0, 0)) (by (with_reducible repeat (first | refine blk_drewN ?_ _ | refine blk_drew ?_ | refine blk_alloc ?_ _)); refine blk_far ?_ NB200_225.out _; (with_reducible repeat (first | refine blk_drewN ?_ _ | refine blk_drew ?_ | refine blk_alloc ?_ _)); refine blk_far ?_ NB200_225.out _; (with_reducible repeat (first | refine blk_drewN ?_ _ | refine blk_drew ?_ | refine blk_alloc ?_ _)); refine blk_far ?_ NB200_225.out _; (with_reducible repeat (first | refine blk_drewN ?_ _ | refine blk_drew ?_ | refine blk_alloc ?_ _)); exact BK200.out) hb); have n4_ := Aside0.mk (blk_below (g := gb225) (o := .cells #[.int .u8 t219, .string t220, .slice Ao403 t221.length co403] 27 (0, 0)) (by (with_reducible repeat (first | refine blk_drewN ?_ _ | refine blk_drew ?_ | refine blk_alloc ?_ _)); refine blk_put (cs := #[.int .u8 t219, .string t220, .slice none 0 0]) ?_ 2 _ rfl; (with_reducible repeat (first | refine blk_drewN ?_ _ | refine blk_drew ?_ | refine blk_alloc ?_ _)); refine blk_put (cs := #[.int .u8 t219, .string (⟨#[]⟩ : ByteArray), .slice none 0 0]) ?_ 1 _ rfl; (with_reducible repeat (first | refine blk_drewN ?_ _ | refine blk_drew ?_ | refine blk_alloc ?_ _)); refine blk_put (cs := #[.int .u8 0, .string (⟨#[]⟩ : ByteArray), .slice none 0 0]) ?_ 0 _ rfl; (with_reducible repeat (first | refine blk_drewN ?_ _ | refine blk_drew ?_ | refine blk_alloc ?_ _)); exact BK225.out) hb); have n5_ := Aside0.mk (below_step (by repeat (first | (with_reducible first | exact HB.out | apply below_alloc | apply pw_below_drewN | apply below_drew1 | refine below_set ?_ GE191.out | refine below_set ?_ GE200.out | refine below_set ?_ GE225.out) | exact HB.out)) hb); clear HO_201002; clear HO223; clear BK191; clear BK200; clear BK225; clear HB; have HO_201002 := n0_; have HO223 := n1_; have BK191 := n2_; have BK200 := n3_; have BK225 := n4_; have HB := n5_; clear n0_ n1_ n2_ n3_ n4_ n5_; (try clear hb); (try clear hb2); (try clear hk); (try clear hi); have hcz405_0 : w404.cell? ⟨gb191, 0, none⟩ = some (.bool a1_0) := (blk_cell BK191.out 0).trans rfl; have hcz405_1 : w404.cell? ⟨gb191, 1, none⟩ = some (.bool a1_1) := (blk_cell BK191.out 1).trans rfl; have hcz405_2 : w404.cell? ⟨gb191, 2, none⟩ = some (.bool a1_2) := (blk_cell BK191.out 2).trans rfl; have hcz405_3 : w404.cell? ⟨gb191, 3, none⟩ = some (.bool false) := (blk_cell BK191.out 3).trans rfl; have hcz405_4 : w404.cell? ⟨gb191, 4, none⟩ = some (.bool a1_4) := (blk_cell BK191.out 4).trans rfl; have hcz405_5 : w404.cell? ⟨gb191, 5, none⟩ = some (.bool a1_5) := (blk_cell BK191.out 5).trans rfl; have hcz405_6 : w404.cell? ⟨gb191, 6, none⟩ = some (.int .i64 a1_6) := (blk_cell BK191.out 6).trans rfl; have hfz405_0 := blk_frozen BK191.out 0; have hfz405_1 := blk_frozen BK191.out 1; have hfz405_2 := blk_frozen BK191.out 2; have hfz405_3 := blk_frozen BK191.out 3; have hfz405_4 := blk_frozen BK191.out 4; have hfz405_5 := blk_frozen BK191.out 5; have hfz405_6 := blk_frozen BK191.out 6; have hcz406_0 : w404.cell? ⟨gb225, 0, none⟩ = some (.int .u8 t219) := (blk_cell BK225.out 0).trans rfl; have hcz406_1 : w404.cell? ⟨gb225, 1, none⟩ = some (.string t220) := (blk_cell BK225.out 1).trans rfl; have hcz406_2 : w404.cell? ⟨gb225, 2, none⟩ = some (.slice Ao403 t221.length co403) := (blk_cell BK225.out 2).trans rfl; have hfz406_0 := blk_frozen BK225.out 0; have hfz406_1 := blk_frozen BK225.out 1; have hfz406_2 := blk_frozen BK225.out 2) | (go_at_call 10; (with_reducible refine (mailroomlaw07_shown.calls t219 t220 _ _ t221 t224 t230 _ ?side1 ?side2 A395.out).mono ?_); (case side1 => repeat (first | exact (Kd.R_reads' HO223.out).2.2 | (with_reducible refine Kd.C_alloc ?_ _) | (with_reducible refine Kd.C_drewN ?_ _) | (with_reducible refine Kd.C_drew ?_))); (case side2 => exact (Kd.R_reads' HO223.out).2.1); rintro e w407 ⟨rfl, hb⟩; have n0_ := Aside0.mk (Kd.R_below (by (with_reducible repeat (first | apply Kd.R_alloc | apply Kd.R_drewN | apply Kd.R_drew)); exact HO_201002.out) hb); have n1_ := Aside0.mk (Kd.R_below (by (with_reducible repeat (first | apply Kd.R_alloc | apply Kd.R_drewN | apply Kd.R_drew)); exact HO223.out) hb); have n2_ := Aside0.mk (blk_below (g := gb191) (o := .cells #[.bool a1_0, .bool a1_1, .bool a1_2, .bool false, .bool a1_4, .bool a1_5, .int .i64 a1_6] 23 (0, 0)) (by (with_reducible repeat (first | refine blk_drewN ?_ _ | refine blk_drew ?_ | refine blk_alloc ?_ _)); exact BK191.out) hb); have n3_ := Aside0.mk (blk_below (g := gb200) (o := .cells #[.int .u8 t194, .string t195, .slice Ao22 t196.length co22] 27 (0, 0)) (by (with_reducible repeat (first | refine blk_drewN ?_ _ | refine blk_drew ?_ | refine blk_alloc ?_ _)); exact BK200.out) hb); have n4_ := Aside0.mk (blk_below (g := gb225) (o := .cells #[.int .u8 t219, .string t220, .slice Ao403 t221.length co403] 27 (0, 0)) (by (with_reducible repeat (first | refine blk_drewN ?_ _ | refine blk_drew ?_ | refine blk_alloc ?_ _)); exact BK225.out) hb); have n5_ := Aside0.mk (below_step (by repeat (first | (with_reducible first | exact HB.out | apply below_alloc | apply pw_below_drewN | apply below_drew1 | refine below_set ?_ GE191.out | refine below_set ?_ GE200.out | refine below_set ?_ GE225.out) | exact HB.out)) hb); clear HO_201002; clear HO223; clear BK191; clear BK200; clear BK225; clear HB; have HO_201002 := n0_; have HO223 := n1_; have BK191 := n2_; have BK200 := n3_; have BK225 := n4_; have HB := n5_; clear n0_ n1_ n2_ n3_ n4_ n5_; (try clear hb); (try clear hb2); (try clear hk); (try clear hi)))
                go_ret
                exact ⟨by first | rfl | (simp [errW_none, errW_some] <;> rfl) | (simp [*, errW_none, errW_some] <;> rfl), by repeat (first | (with_reducible first | exact HB.out | apply below_alloc | apply pw_below_drewN | apply below_drew1 | refine below_set ?_ GE191.out | refine below_set ?_ GE200.out | refine below_set ?_ GE225.out) | exact HB.out)⟩
              ·rw [if_neg c394] at H
               have c394b0 : (t220.toList == a0.toList) = false := beq_eq_false_iff_ne.mpr c394
               have c394b1 : (t220.toList != a0.toList) = true := bne_iff_ne.mpr c394
               exact absurd ((Option.some.inj H).trans hr_.out) (by decide)
             ·rw [if_neg c393] at H
              have c393b0 : (t219 == 4) = false := beq_eq_false_iff_ne.mpr c393
              have c393b1 : (t219 != 4) = true := bne_iff_ne.mpr c393
              exact absurd ((Option.some.inj H).trans hr_.out) (by decide)
            ·rw [if_neg c392] at H
             have c392b0 : ((t221.length : Int) == 1) = false := beq_eq_false_iff_ne.mpr c392
             have c392b1 : ((t221.length : Int) != 1) = true := bne_iff_ne.mpr c392
             exact absurd ((Option.some.inj H).trans hr_.out) (by decide)
           ·rw [if_neg c391] at H
            have c391b0 : (t226.toList == ([78, 69, 86, 69, 82] : List UInt8)) = false := beq_eq_false_iff_ne.mpr c391
            have c391b1 : (t226.toList != ([78, 69, 86, 69, 82] : List UInt8)) = true := bne_iff_ne.mpr c391
            exact absurd ((Option.some.inj H).trans hr_.out) (by decide)
          ·replace c390 := Bool.eq_false_iff.mpr c390
           subst c390
           have H1 : (if (t221.length : Int) = 0 then (if t219 = 4 then (if t220.toList = a0.toList then ((mailroomlaw07_shown.f t219 t220 t221 t224).bind fun t231 => (some (!t231.toList.isEmpty))) else (some false)) else (some false)) else (some false)) = some r := by rw [if_neg (show ¬ (false = true) by decide)] at H; exact H
           clear H
           have H := H1
           clear H1
           by_cases c451 : (t221.length : Int) = 0
           ·rw [if_pos c451] at H
            have c451b0 : ((t221.length : Int) == 0) = true := beq_iff_eq.mpr c451
            have c451b1 : ((t221.length : Int) != 0) = false := bne_eq_false_iff_eq.mpr c451
            clear c451
            by_cases c452 : t219 = 4
            ·rw [if_pos c452] at H
             have c452b0 : (t219 == 4) = true := beq_iff_eq.mpr c452
             have c452b1 : (t219 != 4) = false := bne_eq_false_iff_eq.mpr c452
             clear c452
             by_cases c453 : t220.toList = a0.toList
             ·rw [if_pos c453] at H
              have c453b0 : (t220.toList == a0.toList) = true := beq_iff_eq.mpr c453
              have c453b1 : (t220.toList != a0.toList) = false := bne_eq_false_iff_eq.mpr c453
              clear c453
              replace H := Option.bind_eq_some_iff.mp H
              obtain ⟨t231, A4540, H⟩ := H
              replace H : (some (!t231.toList.isEmpty)) = some r := H
              have A454 := Aside0.mk A4540
              clear A4540
              obtain rfl := Option.some.inj H
              have hnb455 := NB191_200.out
              have hnc455 := NB200_191.out
              have hcz456_0 : wc.cell? ⟨gb191, 0, none⟩ = some (.bool a1_0) := (blk_cell BK191.out 0).trans rfl
              have hcz456_1 : wc.cell? ⟨gb191, 1, none⟩ = some (.bool a1_1) := (blk_cell BK191.out 1).trans rfl
              have hcz456_2 : wc.cell? ⟨gb191, 2, none⟩ = some (.bool a1_2) := (blk_cell BK191.out 2).trans rfl
              have hcz456_3 : wc.cell? ⟨gb191, 3, none⟩ = some (.bool false) := (blk_cell BK191.out 3).trans rfl
              have hcz456_4 : wc.cell? ⟨gb191, 4, none⟩ = some (.bool a1_4) := (blk_cell BK191.out 4).trans rfl
              have hcz456_5 : wc.cell? ⟨gb191, 5, none⟩ = some (.bool a1_5) := (blk_cell BK191.out 5).trans rfl
              have hcz456_6 : wc.cell? ⟨gb191, 6, none⟩ = some (.int .i64 a1_6) := (blk_cell BK191.out 6).trans rfl
              have hfz456_0 := blk_frozen BK191.out 0
              have hfz456_1 := blk_frozen BK191.out 1
              have hfz456_2 := blk_frozen BK191.out 2
              have hfz456_3 := blk_frozen BK191.out 3
              have hfz456_4 := blk_frozen BK191.out 4
              have hfz456_5 := blk_frozen BK191.out 5
              have hfz456_6 := blk_frozen BK191.out 6
              as_aux_lemma =>
               go_wp2_with (first | ((with_reducible refine gate_callee (f := 11) rfl ?_); refine goesL_ (some 144) rfl rfl Tryd.func11 (by kernel_rfl) rfl #[.string a0, .agg #[.bool a1_0, .bool a1_1, .bool a1_2, .bool false, .bool a1_4, .bool a1_5, .int .i64 a1_6], .bool a5] rfl (by (try simp only [List.map_toArray, List.map_cons, List.map_nil]); first | done | rfl | (simp only [List.length_drop, List.length_take]; rfl)) ?_; (with_reducible refine (cmd_Rcpt.calls kj15 a0 a1_0 a1_1 a1_2 false a1_4 a1_5 a1_6 a5 t219 t220 t221 t224 _ A264.out).mono ?_); rintro e w457 ⟨v222, rfl, ho0, hb⟩; refine ⟨_, rfl, ?_⟩; have n0_ := Aside0.mk (Kd.R_elder' (by (with_reducible repeat (first | apply Kd.R_alloc | apply Kd.R_drewN | apply Kd.R_drew)); exact HO_201002.out) (Kd.R_base ho0) hb); have n1_ := Aside0.mk (Kd.R_lower (Kd.R_new' ho0 (Kd.R_lt (by (with_reducible repeat (first | apply Kd.R_alloc | apply Kd.R_drewN | apply Kd.R_drew)); exact HO_201002.out))) (below_size (by repeat (first | (with_reducible first | exact HB.out | apply below_alloc | apply pw_below_drewN | apply below_drew1 | refine below_set ?_ GE191.out | refine below_set ?_ GE200.out) | exact HB.out)))); have n2_ := Aside0.mk (blk_below (g := gb191) (o := .cells #[.bool a1_0, .bool a1_1, .bool a1_2, .bool false, .bool a1_4, .bool a1_5, .int .i64 a1_6] 23 (0, 0)) (by (with_reducible repeat (first | refine blk_drewN ?_ _ | refine blk_drew ?_ | refine blk_alloc ?_ _)); exact BK191.out) hb); have n3_ := Aside0.mk (blk_below (g := gb200) (o := .cells #[.int .u8 t194, .string t195, .slice Ao22 t196.length co22] 27 (0, 0)) (by (with_reducible repeat (first | refine blk_drewN ?_ _ | refine blk_drew ?_ | refine blk_alloc ?_ _)); exact BK200.out) hb); have n4_ := Aside0.mk (below_step (by repeat (first | (with_reducible first | exact HB.out | apply below_alloc | apply pw_below_drewN | apply below_drew1 | refine below_set ?_ GE191.out | refine below_set ?_ GE200.out) | exact HB.out)) hb); clear HO_201002; clear BK191; clear BK200; clear HB; have HO_201002 := n0_; have HO223 := n1_; have BK191 := n2_; have BK200 := n3_; have HB := n4_; clear n0_ n1_ n2_ n3_ n4_; (try clear hb); (try clear hb2); (try clear hk); (try clear hi); (try clear ho0)) | ((with_reducible refine gate_dst (N := 24) rfl ?_); (try (refine gate_guard (by rfl) ?_; dsimp only)); refine box_event ?hg (N := 24) ?hd (cs := #[.int .u8 0, .string (⟨#[]⟩ : ByteArray), .slice none 0 0]) (t := 27) ?hr ?_; (case hd => rfl); (case hg => rfl); (case hr => first | (go_simp; done) | (go_simp; rfl)); intro gb225 hg w458 hbox hb; have n0_ := Aside0.mk (Kd.R_below (by (with_reducible repeat (first | apply Kd.R_alloc | apply Kd.R_drewN | apply Kd.R_drew)); exact HO_201002.out) hb); have n1_ := Aside0.mk (Kd.R_below (by (with_reducible repeat (first | apply Kd.R_alloc | apply Kd.R_drewN | apply Kd.R_drew)); exact HO223.out) hb); have n2_ := Aside0.mk (blk_below (g := gb191) (o := .cells #[.bool a1_0, .bool a1_1, .bool a1_2, .bool false, .bool a1_4, .bool a1_5, .int .i64 a1_6] 23 (0, 0)) (by (with_reducible repeat (first | refine blk_drewN ?_ _ | refine blk_drew ?_ | refine blk_alloc ?_ _)); exact BK191.out) hb); have n3_ := Aside0.mk (blk_below (g := gb200) (o := .cells #[.int .u8 t194, .string t195, .slice Ao22 t196.length co22] 27 (0, 0)) (by (with_reducible repeat (first | refine blk_drewN ?_ _ | refine blk_drew ?_ | refine blk_alloc ?_ _)); exact BK200.out) hb); have n4_ := Aside0.mk (below_step (by repeat (first | (with_reducible first | exact HB.out | apply below_alloc | apply pw_below_drewN | apply below_drew1 | refine below_set ?_ GE191.out | refine below_set ?_ GE200.out) | exact HB.out)) hb); have n5_ := Aside0.mk (hbox); have n6_ := Aside0.mk ((by rw [hg]; exact (below_size (by repeat (first | (with_reducible first | exact HB.out | apply below_alloc | apply pw_below_drewN | apply below_drew1 | refine below_set ?_ GE191.out | refine below_set ?_ GE200.out) | exact HB.out))) : w.heap.size ≤ gb225)); have n7_ := Aside0.mk ((by rw [hg]; exact (below_size (by repeat (first | (with_reducible first | exact HB.out | apply below_alloc | apply pw_below_drewN | apply below_drew1 | refine below_set ?_ GE191.out | refine below_set ?_ GE200.out) | exact HB.out))) : w.heap.size ≤ gb225)); have n8_ := Aside0.mk ((by rw [hg]; exact Nat.ne_of_lt (blk_lt (g := gb191) (o := .cells #[.bool a1_0, .bool a1_1, .bool a1_2, .bool false, .bool a1_4, .bool a1_5, .int .i64 a1_6] 23 (0, 0)) (by (with_reducible repeat (first | refine blk_drewN ?_ _ | refine blk_drew ?_ | refine blk_alloc ?_ _)); exact BK191.out)) : gb191 ≠ gb225)); have n9_ := Aside0.mk ((by rw [hg]; exact Nat.ne_of_gt (blk_lt (g := gb191) (o := .cells #[.bool a1_0, .bool a1_1, .bool a1_2, .bool false, .bool a1_4, .bool a1_5, .int .i64 a1_6] 23 (0, 0)) (by (with_reducible repeat (first | refine blk_drewN ?_ _ | refine blk_drew ?_ | refine blk_alloc ?_ _)); exact BK191.out)) : gb225 ≠ gb191)); have n10_ := Aside0.mk ((by rw [hg]; exact Nat.ne_of_lt (blk_lt (g := gb200) (o := .cells #[.int .u8 t194, .string t195, .slice Ao22 t196.length co22] 27 (0, 0)) (by (with_reducible repeat (first | refine blk_drewN ?_ _ | refine blk_drew ?_ | refine blk_alloc ?_ _)); exact BK200.out)) : gb200 ≠ gb225)); have n11_ := Aside0.mk ((by rw [hg]; exact Nat.ne_of_gt (blk_lt (g := gb200) (o := .cells #[.int .u8 t194, .string t195, .slice Ao22 t196.length co22] 27 (0, 0)) (by (with_reducible repeat (first | refine blk_drewN ?_ _ | refine blk_drew ?_ | refine blk_alloc ?_ _)); exact BK200.out)) : gb225 ≠ gb200)); clear HO_201002; clear HO223; clear BK191; clear BK200; clear HB; have HO_201002 := n0_; have HO223 := n1_; have BK191 := n2_; have BK200 := n3_; have HB := n4_; have BK225 := n5_; have GW225 := n6_; have GE225 := n7_; have NB191_225 := n8_; have NB225_191 := n9_; have NB200_225 := n10_; have NB225_200 := n11_; clear n0_ n1_ n2_ n3_ n4_ n5_ n6_ n7_ n8_ n9_ n10_ n11_; clear hb hbox hg; have hnb459 := NB225_191.out; have hnc459 := NB191_225.out; have hnb460 := NB225_200.out; have hnc460 := NB200_225.out; have hcz461_0 : w458.cell? ⟨gb225, 0, none⟩ = some (.int .u8 0) := (blk_cell BK225.out 0).trans rfl; have hcz461_1 : w458.cell? ⟨gb225, 1, none⟩ = some (.string (⟨#[]⟩ : ByteArray)) := (blk_cell BK225.out 1).trans rfl; have hcz461_2 : w458.cell? ⟨gb225, 2, none⟩ = some (.slice none 0 0) := (blk_cell BK225.out 2).trans rfl; have hfz461_0 := blk_frozen BK225.out 0; have hfz461_1 := blk_frozen BK225.out 1; have hfz461_2 := blk_frozen BK225.out 2; obtain ⟨Ao462, co462, eo462⟩ := Kd.R_slice HO223.out; subst eo462) | ((with_reducible refine gate_callee (f := 9) rfl ?_); refine goesL_ (some 158) rfl rfl Tryd.func9 (by kernel_rfl) rfl #[.agg #[.int .u8 t219, .string t220, .slice Ao462 t221.length co462], .string (⟨#[78, 79, 84, 73, 70, 89]⟩ : ByteArray)] rfl (by (try simp only [List.map_toArray, List.map_cons, List.map_nil]); first | done | rfl | (simp only [List.length_drop, List.length_take]; rfl)) ?_; (with_reducible refine (cmd_Get.calls kj15 t219 t220 _ _ t221 (⟨#[78, 79, 84, 73, 70, 89]⟩ : ByteArray) t226 false _ ?side1 ?side2 A266.out).mono ?_); (case side1 => refine (Kd.R_reads' (e := 49) (base := w.heap.size) (ok := fun k_ => (True ∧ some k_ ≠ (.slice Ao22 t196.length co22 : Value).ownBlock)) (n := t221.length) (c := co462) ?_).2.2; exact (by (with_reducible repeat (first | apply Kd.R_alloc | apply Kd.R_drewN | apply Kd.R_drew)); exact (Kd.R_mono (Kd.R_far (p := ⟨gb225, 2, none⟩) (Kd.R_far (p := ⟨gb225, 1, none⟩) (Kd.R_far (p := ⟨gb225, 0, none⟩) (Kd.R_types HO223.out BK225.out (by decide)) (fun _ hk => hk.2) (.int .u8 t219)) (fun _ hk => hk.2) (.string t220)) (fun _ hk => hk.2) (.slice Ao462 t221.length co462)) (fun _ h_ => h_.1)))); (case side2 => exact (Kd.R_reads' HO223.out).2.1); rintro e w463 ⟨rfl, hb⟩; refine ⟨_, rfl, ?_⟩; have n0_ := Aside0.mk (Kd.R_below (by (with_reducible repeat (first | apply Kd.R_alloc | apply Kd.R_drewN | apply Kd.R_drew)); exact (Kd.R_mono (Kd.R_far (p := ⟨gb225, 2, none⟩) (Kd.R_far (p := ⟨gb225, 1, none⟩) (Kd.R_far (p := ⟨gb225, 0, none⟩) (Kd.R_types HO_201002.out BK225.out (by decide)) (fun _ hk => hk.2) (.int .u8 t219)) (fun _ hk => hk.2) (.string t220)) (fun _ hk => hk.2) (.slice Ao462 t221.length co462)) (fun _ h_ => h_.1))) hb); have n1_ := Aside0.mk (Kd.R_below (by (with_reducible repeat (first | apply Kd.R_alloc | apply Kd.R_drewN | apply Kd.R_drew)); exact (Kd.R_mono (Kd.R_far (p := ⟨gb225, 2, none⟩) (Kd.R_far (p := ⟨gb225, 1, none⟩) (Kd.R_far (p := ⟨gb225, 0, none⟩) (Kd.R_types HO223.out BK225.out (by decide)) (fun _ hk => hk.2) (.int .u8 t219)) (fun _ hk => hk.2) (.string t220)) (fun _ hk => hk.2) (.slice Ao462 t221.length co462)) (fun _ h_ => h_.1))) hb); have n2_ := Aside0.mk (blk_below (g := gb191) (o := .cells #[.bool a1_0, .bool a1_1, .bool a1_2, .bool false, .bool a1_4, .bool a1_5, .int .i64 a1_6] 23 (0, 0)) (by (with_reducible repeat (first | refine blk_drewN ?_ _ | refine blk_drew ?_ | refine blk_alloc ?_ _)); refine blk_far ?_ NB191_225.out _; (with_reducible repeat (first | refine blk_drewN ?_ _ | refine blk_drew ?_ | refine blk_alloc ?_ _)); refine blk_far ?_ NB191_225.out _; (with_reducible repeat (first | refine blk_drewN ?_ _ | refine blk_drew ?_ | refine blk_alloc ?_ _)); refine blk_far ?_ NB191_225.out _; (with_reducible repeat (first | refine blk_drewN ?_ _ | refine blk_drew ?_ | refine blk_alloc ?_ _)); exact BK191.out) hb); have n3_ := Aside0.mk (blk_below (g := gb200) (o := .cells #[.int .u8 t194, .string t195, .slice Ao22 t196.length co22] 27 (0, 0)) (by (with_reducible repeat (first | refine blk_drewN ?_ _ | refine blk_drew ?_ | refine blk_alloc ?_ _)); refine blk_far ?_ NB200_225.out _; (with_reducible repeat (first | refine blk_drewN ?_ _ | refine blk_drew ?_ | refine blk_alloc ?_ _)); refine blk_far ?_ NB200_225.out _; (with_reducible repeat (first | refine blk_drewN ?_ _ | refine blk_drew ?_ | refine blk_alloc ?_ _)); refine blk_far ?_ NB200_225.out _; (with_reducible repeat (first | refine blk_drewN ?_ _ | refine blk_drew ?_ | refine blk_alloc ?_ _)); exact BK200.out) hb); have n4_ := Aside0.mk (blk_below (g := gb225) (o := .cells #[.int .u8 t219, .string t220, .slice Ao462 t221.length co462] 27 (0, 0)) (by (with_reducible repeat (first | refine blk_drewN ?_ _ | refine blk_drew ?_ | refine blk_alloc ?_ _)); refine blk_put (cs := #[.int .u8 t219, .string t220, .slice none 0 0]) ?_ 2 _ rfl; (with_reducible repeat (first | refine blk_drewN ?_ _ | refine blk_drew ?_ | refine blk_alloc ?_ _)); refine blk_put (cs := #[.int .u8 t219, .string (⟨#[]⟩ : ByteArray), .slice none 0 0]) ?_ 1 _ rfl; (with_reducible repeat (first | refine blk_drewN ?_ _ | refine blk_drew ?_ | refine blk_alloc ?_ _)); refine blk_put (cs := #[.int .u8 0, .string (⟨#[]⟩ : ByteArray), .slice none 0 0]) ?_ 0 _ rfl; (with_reducible repeat (first | refine blk_drewN ?_ _ | refine blk_drew ?_ | refine blk_alloc ?_ _)); exact BK225.out) hb); have n5_ := Aside0.mk (below_step (by repeat (first | (with_reducible first | exact HB.out | apply below_alloc | apply pw_below_drewN | apply below_drew1 | refine below_set ?_ GE191.out | refine below_set ?_ GE200.out | refine below_set ?_ GE225.out) | exact HB.out)) hb); clear HO_201002; clear HO223; clear BK191; clear BK200; clear BK225; clear HB; have HO_201002 := n0_; have HO223 := n1_; have BK191 := n2_; have BK200 := n3_; have BK225 := n4_; have HB := n5_; clear n0_ n1_ n2_ n3_ n4_ n5_; (try clear hb); (try clear hb2); (try clear hk); (try clear hi); have hcz464_0 : w463.cell? ⟨gb191, 0, none⟩ = some (.bool a1_0) := (blk_cell BK191.out 0).trans rfl; have hcz464_1 : w463.cell? ⟨gb191, 1, none⟩ = some (.bool a1_1) := (blk_cell BK191.out 1).trans rfl; have hcz464_2 : w463.cell? ⟨gb191, 2, none⟩ = some (.bool a1_2) := (blk_cell BK191.out 2).trans rfl; have hcz464_3 : w463.cell? ⟨gb191, 3, none⟩ = some (.bool false) := (blk_cell BK191.out 3).trans rfl; have hcz464_4 : w463.cell? ⟨gb191, 4, none⟩ = some (.bool a1_4) := (blk_cell BK191.out 4).trans rfl; have hcz464_5 : w463.cell? ⟨gb191, 5, none⟩ = some (.bool a1_5) := (blk_cell BK191.out 5).trans rfl; have hcz464_6 : w463.cell? ⟨gb191, 6, none⟩ = some (.int .i64 a1_6) := (blk_cell BK191.out 6).trans rfl; have hfz464_0 := blk_frozen BK191.out 0; have hfz464_1 := blk_frozen BK191.out 1; have hfz464_2 := blk_frozen BK191.out 2; have hfz464_3 := blk_frozen BK191.out 3; have hfz464_4 := blk_frozen BK191.out 4; have hfz464_5 := blk_frozen BK191.out 5; have hfz464_6 := blk_frozen BK191.out 6; have hcz465_0 : w463.cell? ⟨gb225, 0, none⟩ = some (.int .u8 t219) := (blk_cell BK225.out 0).trans rfl; have hcz465_1 : w463.cell? ⟨gb225, 1, none⟩ = some (.string t220) := (blk_cell BK225.out 1).trans rfl; have hcz465_2 : w463.cell? ⟨gb225, 2, none⟩ = some (.slice Ao462 t221.length co462) := (blk_cell BK225.out 2).trans rfl; have hfz465_0 := blk_frozen BK225.out 0; have hfz465_1 := blk_frozen BK225.out 1; have hfz465_2 := blk_frozen BK225.out 2) | (go_at_call 10; (with_reducible refine (mailroomlaw07_shown.calls t219 t220 _ _ t221 t224 t231 _ ?side1 ?side2 A454.out).mono ?_); (case side1 => repeat (first | exact (Kd.R_reads' HO223.out).2.2 | (with_reducible refine Kd.C_alloc ?_ _) | (with_reducible refine Kd.C_drewN ?_ _) | (with_reducible refine Kd.C_drew ?_))); (case side2 => exact (Kd.R_reads' HO223.out).2.1); rintro e w466 ⟨rfl, hb⟩; have n0_ := Aside0.mk (Kd.R_below (by (with_reducible repeat (first | apply Kd.R_alloc | apply Kd.R_drewN | apply Kd.R_drew)); exact HO_201002.out) hb); have n1_ := Aside0.mk (Kd.R_below (by (with_reducible repeat (first | apply Kd.R_alloc | apply Kd.R_drewN | apply Kd.R_drew)); exact HO223.out) hb); have n2_ := Aside0.mk (blk_below (g := gb191) (o := .cells #[.bool a1_0, .bool a1_1, .bool a1_2, .bool false, .bool a1_4, .bool a1_5, .int .i64 a1_6] 23 (0, 0)) (by (with_reducible repeat (first | refine blk_drewN ?_ _ | refine blk_drew ?_ | refine blk_alloc ?_ _)); exact BK191.out) hb); have n3_ := Aside0.mk (blk_below (g := gb200) (o := .cells #[.int .u8 t194, .string t195, .slice Ao22 t196.length co22] 27 (0, 0)) (by (with_reducible repeat (first | refine blk_drewN ?_ _ | refine blk_drew ?_ | refine blk_alloc ?_ _)); exact BK200.out) hb); have n4_ := Aside0.mk (blk_below (g := gb225) (o := .cells #[.int .u8 t219, .string t220, .slice Ao462 t221.length co462] 27 (0, 0)) (by (with_reducible repeat (first | refine blk_drewN ?_ _ | refine blk_drew ?_ | refine blk_alloc ?_ _)); exact BK225.out) hb); have n5_ := Aside0.mk (below_step (by repeat (first | (with_reducible first | exact HB.out | apply below_alloc | apply pw_below_drewN | apply below_drew1 | refine below_set ?_ GE191.out | refine below_set ?_ GE200.out | refine below_set ?_ GE225.out) | exact HB.out)) hb); clear HO_201002; clear HO223; clear BK191; clear BK200; clear BK225; clear HB; have HO_201002 := n0_; have HO223 := n1_; have BK191 := n2_; have BK200 := n3_; have BK225 := n4_; have HB := n5_; clear n0_ n1_ n2_ n3_ n4_ n5_; (try clear hb); (try clear hb2); (try clear hk); (try clear hi)))
               go_ret
               exact ⟨by first | rfl | (simp [errW_none, errW_some] <;> rfl) | (simp [*, errW_none, errW_some] <;> rfl), by repeat (first | (with_reducible first | exact HB.out | apply below_alloc | apply pw_below_drewN | apply below_drew1 | refine below_set ?_ GE191.out | refine below_set ?_ GE200.out | refine below_set ?_ GE225.out) | exact HB.out)⟩
             ·rw [if_neg c453] at H
              have c453b0 : (t220.toList == a0.toList) = false := beq_eq_false_iff_ne.mpr c453
              have c453b1 : (t220.toList != a0.toList) = true := bne_iff_ne.mpr c453
              exact absurd ((Option.some.inj H).trans hr_.out) (by decide)
            ·rw [if_neg c452] at H
             have c452b0 : (t219 == 4) = false := beq_eq_false_iff_ne.mpr c452
             have c452b1 : (t219 != 4) = true := bne_iff_ne.mpr c452
             exact absurd ((Option.some.inj H).trans hr_.out) (by decide)
           ·rw [if_neg c451] at H
            have c451b0 : ((t221.length : Int) == 0) = false := beq_eq_false_iff_ne.mpr c451
            have c451b1 : ((t221.length : Int) != 0) = true := bne_iff_ne.mpr c451
            have c451b2 : ¬ (t221 = []) := fun h_ => c451 (by rw [h_]; rfl)
            exact absurd ((Option.some.inj H).trans hr_.out) (by decide)
         ·rw [if_neg c389] at H
          have c389b0 : (t227 == false) = false := by simpa using c389
          (try (have c389b1 : decide (t227 = false) = false := by simpa using c389))
          (try (have c389b2 : (t227 == false) = false := by simpa using c389))
          (try (have c389b3 : ¬ (t227 = false) := by simpa using c389))
          clear c389
          exact absurd ((Option.some.inj H).trans hr_.out) (by decide)
       ·rw [if_neg c265] at H
        have c265b0 : (t224 == 0) = false := beq_eq_false_iff_ne.mpr c265
        have c265b1 : (t224 != 0) = true := bne_iff_ne.mpr c265
        by_cases c510 : t224 = 4
        ·rw [if_pos c510] at H
         have c510b0 : (t224 == 4) = true := beq_iff_eq.mpr c510
         have c510b1 : (t224 != 4) = false := bne_eq_false_iff_eq.mpr c510
         clear c510
         obtain rfl := Option.some.inj H
         have hnb511 := NB191_200.out
         have hnc511 := NB200_191.out
         have hcz512_0 : wc.cell? ⟨gb191, 0, none⟩ = some (.bool a1_0) := (blk_cell BK191.out 0).trans rfl
         have hcz512_1 : wc.cell? ⟨gb191, 1, none⟩ = some (.bool a1_1) := (blk_cell BK191.out 1).trans rfl
         have hcz512_2 : wc.cell? ⟨gb191, 2, none⟩ = some (.bool a1_2) := (blk_cell BK191.out 2).trans rfl
         have hcz512_3 : wc.cell? ⟨gb191, 3, none⟩ = some (.bool a1_3) := (blk_cell BK191.out 3).trans rfl
         have hcz512_4 : wc.cell? ⟨gb191, 4, none⟩ = some (.bool a1_4) := (blk_cell BK191.out 4).trans rfl
         have hcz512_5 : wc.cell? ⟨gb191, 5, none⟩ = some (.bool a1_5) := (blk_cell BK191.out 5).trans rfl
         have hcz512_6 : wc.cell? ⟨gb191, 6, none⟩ = some (.int .i64 a1_6) := (blk_cell BK191.out 6).trans rfl
         have hfz512_0 := blk_frozen BK191.out 0
         have hfz512_1 := blk_frozen BK191.out 1
         have hfz512_2 := blk_frozen BK191.out 2
         have hfz512_3 := blk_frozen BK191.out 3
         have hfz512_4 := blk_frozen BK191.out 4
         have hfz512_5 := blk_frozen BK191.out 5
         have hfz512_6 := blk_frozen BK191.out 6
         as_aux_lemma =>
          go_wp2_with (first | ((with_reducible refine gate_callee (f := 11) rfl ?_); refine goesL_ (some 144) rfl rfl Tryd.func11 (by kernel_rfl) rfl #[.string a0, .agg #[.bool a1_0, .bool a1_1, .bool a1_2, .bool a1_3, .bool a1_4, .bool a1_5, .int .i64 a1_6], .bool a5] rfl (by (try simp only [List.map_toArray, List.map_cons, List.map_nil]); first | done | rfl | (simp only [List.length_drop, List.length_take]; rfl)) ?_; (with_reducible refine (cmd_Rcpt.calls kj15 a0 a1_0 a1_1 a1_2 a1_3 a1_4 a1_5 a1_6 a5 t219 t220 t221 t224 _ A264.out).mono ?_); rintro e w513 ⟨v222, rfl, ho0, hb⟩; refine ⟨_, rfl, ?_⟩; have n0_ := Aside0.mk (Kd.R_elder' (by (with_reducible repeat (first | apply Kd.R_alloc | apply Kd.R_drewN | apply Kd.R_drew)); exact HO_201002.out) (Kd.R_base ho0) hb); have n1_ := Aside0.mk (Kd.R_lower (Kd.R_new' ho0 (Kd.R_lt (by (with_reducible repeat (first | apply Kd.R_alloc | apply Kd.R_drewN | apply Kd.R_drew)); exact HO_201002.out))) (below_size (by repeat (first | (with_reducible first | exact HB.out | apply below_alloc | apply pw_below_drewN | apply below_drew1 | refine below_set ?_ GE191.out | refine below_set ?_ GE200.out) | exact HB.out)))); have n2_ := Aside0.mk (blk_below (g := gb191) (o := .cells #[.bool a1_0, .bool a1_1, .bool a1_2, .bool a1_3, .bool a1_4, .bool a1_5, .int .i64 a1_6] 23 (0, 0)) (by (with_reducible repeat (first | refine blk_drewN ?_ _ | refine blk_drew ?_ | refine blk_alloc ?_ _)); exact BK191.out) hb); have n3_ := Aside0.mk (blk_below (g := gb200) (o := .cells #[.int .u8 t194, .string t195, .slice Ao22 t196.length co22] 27 (0, 0)) (by (with_reducible repeat (first | refine blk_drewN ?_ _ | refine blk_drew ?_ | refine blk_alloc ?_ _)); exact BK200.out) hb); have n4_ := Aside0.mk (below_step (by repeat (first | (with_reducible first | exact HB.out | apply below_alloc | apply pw_below_drewN | apply below_drew1 | refine below_set ?_ GE191.out | refine below_set ?_ GE200.out) | exact HB.out)) hb); clear HO_201002; clear BK191; clear BK200; clear HB; have HO_201002 := n0_; have HO223 := n1_; have BK191 := n2_; have BK200 := n3_; have HB := n4_; clear n0_ n1_ n2_ n3_ n4_; (try clear hb); (try clear hb2); (try clear hk); (try clear hi); (try clear ho0)) | ((with_reducible refine gate_dst (N := 24) rfl ?_); (try (refine gate_guard (by rfl) ?_; dsimp only)); refine box_event ?hg (N := 24) ?hd (cs := #[.int .u8 0, .string (⟨#[]⟩ : ByteArray), .slice none 0 0]) (t := 27) ?hr ?_; (case hd => rfl); (case hg => rfl); (case hr => first | (go_simp; done) | (go_simp; rfl)); intro gb225 hg w514 hbox hb; have n0_ := Aside0.mk (Kd.R_below (by (with_reducible repeat (first | apply Kd.R_alloc | apply Kd.R_drewN | apply Kd.R_drew)); exact HO_201002.out) hb); have n1_ := Aside0.mk (Kd.R_below (by (with_reducible repeat (first | apply Kd.R_alloc | apply Kd.R_drewN | apply Kd.R_drew)); exact HO223.out) hb); have n2_ := Aside0.mk (blk_below (g := gb191) (o := .cells #[.bool a1_0, .bool a1_1, .bool a1_2, .bool a1_3, .bool a1_4, .bool a1_5, .int .i64 a1_6] 23 (0, 0)) (by (with_reducible repeat (first | refine blk_drewN ?_ _ | refine blk_drew ?_ | refine blk_alloc ?_ _)); exact BK191.out) hb); have n3_ := Aside0.mk (blk_below (g := gb200) (o := .cells #[.int .u8 t194, .string t195, .slice Ao22 t196.length co22] 27 (0, 0)) (by (with_reducible repeat (first | refine blk_drewN ?_ _ | refine blk_drew ?_ | refine blk_alloc ?_ _)); exact BK200.out) hb); have n4_ := Aside0.mk (below_step (by repeat (first | (with_reducible first | exact HB.out | apply below_alloc | apply pw_below_drewN | apply below_drew1 | refine below_set ?_ GE191.out | refine below_set ?_ GE200.out) | exact HB.out)) hb); have n5_ := Aside0.mk (hbox); have n6_ := Aside0.mk ((by rw [hg]; exact (below_size (by repeat (first | (with_reducible first | exact HB.out | apply below_alloc | apply pw_below_drewN | apply below_drew1 | refine below_set ?_ GE191.out | refine below_set ?_ GE200.out) | exact HB.out))) : w.heap.size ≤ gb225)); have n7_ := Aside0.mk ((by rw [hg]; exact (below_size (by repeat (first | (with_reducible first | exact HB.out | apply below_alloc | apply pw_below_drewN | apply below_drew1 | refine below_set ?_ GE191.out | refine below_set ?_ GE200.out) | exact HB.out))) : w.heap.size ≤ gb225)); have n8_ := Aside0.mk ((by rw [hg]; exact Nat.ne_of_lt (blk_lt (g := gb191) (o := .cells #[.bool a1_0, .bool a1_1, .bool a1_2, .bool a1_3, .bool a1_4, .bool a1_5, .int .i64 a1_6] 23 (0, 0)) (by (with_reducible repeat (first | refine blk_drewN ?_ _ | refine blk_drew ?_ | refine blk_alloc ?_ _)); exact BK191.out)) : gb191 ≠ gb225)); have n9_ := Aside0.mk ((by rw [hg]; exact Nat.ne_of_gt (blk_lt (g := gb191) (o := .cells #[.bool a1_0, .bool a1_1, .bool a1_2, .bool a1_3, .bool a1_4, .bool a1_5, .int .i64 a1_6] 23 (0, 0)) (by (with_reducible repeat (first | refine blk_drewN ?_ _ | refine blk_drew ?_ | refine blk_alloc ?_ _)); exact BK191.out)) : gb225 ≠ gb191)); have n10_ := Aside0.mk ((by rw [hg]; exact Nat.ne_of_lt (blk_lt (g := gb200) (o := .cells #[.int .u8 t194, .string t195, .slice Ao22 t196.length co22] 27 (0, 0)) (by (with_reducible repeat (first | refine blk_drewN ?_ _ | refine blk_drew ?_ | refine blk_alloc ?_ _)); exact BK200.out)) : gb200 ≠ gb225)); have n11_ := Aside0.mk ((by rw [hg]; exact Nat.ne_of_gt (blk_lt (g := gb200) (o := .cells #[.int .u8 t194, .string t195, .slice Ao22 t196.length co22] 27 (0, 0)) (by (with_reducible repeat (first | refine blk_drewN ?_ _ | refine blk_drew ?_ | refine blk_alloc ?_ _)); exact BK200.out)) : gb225 ≠ gb200)); clear HO_201002; clear HO223; clear BK191; clear BK200; clear HB; have HO_201002 := n0_; have HO223 := n1_; have BK191 := n2_; have BK200 := n3_; have HB := n4_; have BK225 := n5_; have GW225 := n6_; have GE225 := n7_; have NB191_225 := n8_; have NB225_191 := n9_; have NB200_225 := n10_; have NB225_200 := n11_; clear n0_ n1_ n2_ n3_ n4_ n5_ n6_ n7_ n8_ n9_ n10_ n11_; clear hb hbox hg; have hnb515 := NB225_191.out; have hnc515 := NB191_225.out; have hnb516 := NB225_200.out; have hnc516 := NB200_225.out; have hcz517_0 : w514.cell? ⟨gb225, 0, none⟩ = some (.int .u8 0) := (blk_cell BK225.out 0).trans rfl; have hcz517_1 : w514.cell? ⟨gb225, 1, none⟩ = some (.string (⟨#[]⟩ : ByteArray)) := (blk_cell BK225.out 1).trans rfl; have hcz517_2 : w514.cell? ⟨gb225, 2, none⟩ = some (.slice none 0 0) := (blk_cell BK225.out 2).trans rfl; have hfz517_0 := blk_frozen BK225.out 0; have hfz517_1 := blk_frozen BK225.out 1; have hfz517_2 := blk_frozen BK225.out 2; obtain ⟨Ao518, co518, eo518⟩ := Kd.R_slice HO223.out; subst eo518))
          go_ret
          exact ⟨by first | rfl | (simp [errW_none, errW_some] <;> rfl) | (simp [*, errW_none, errW_some] <;> rfl), by repeat (first | (with_reducible first | exact HB.out | apply below_alloc | apply pw_below_drewN | apply below_drew1 | refine below_set ?_ GE191.out | refine below_set ?_ GE200.out | refine below_set ?_ GE225.out) | exact HB.out)⟩
        ·rw [if_neg c510] at H
         have c510b0 : (t224 == 4) = false := beq_eq_false_iff_ne.mpr c510
         have c510b1 : (t224 != 4) = true := bne_iff_ne.mpr c510
         exact absurd ((Option.some.inj H).trans hr_.out) (by decide)
end Go.Proofs.YtljkopbalejcgaaDoor.P
end
section
set_option linter.unusedVariables false
set_option linter.unusedSimpArgs false
namespace Go.Proofs.YtljkopbalejcgaaDoor.P
open Go Go.RowKit Go.Lib Go.Proofs.YtljkopbalejcgaaDoorW.PrintWords
theorem rcptC_ok (a : ByteArray) (dsn nv : Bool) (h : (addrParse a.data.toList).isSome = true) : rcptC a dsn nv = (4, a, if (dsn && nv) = true then [⟨⟨#[78, 79, 84, 73, 70, 89]⟩, ⟨#[78, 69, 86, 69, 82]⟩⟩] else [], 0) := by unfold rcptC; rw [if_pos h]
theorem rcpt_shown (a : ByteArray) (q : Bool) (h : (addrParse a.data.toList).isSome = true) : ∃ t, mailroomlaw07_shown.f 4 a (if q = true then [⟨⟨#[78, 79, 84, 73, 70, 89]⟩, ⟨#[78, 69, 86, 69, 82]⟩⟩] else []) 0 = some t ∧ ¬ t.toList = ([] : List UInt8) := by
 have hsz : a.size ≤ 320 := by rw [← len_eq]; exact addr_size _ h
 have hp : cmd_params.f (if q = true then ([⟨⟨#[78, 79, 84, 73, 70, 89]⟩, ⟨#[78, 69, 86, 69, 82]⟩⟩] : List S49) else []) = some true := by
  unfold cmd_params.f
  cases q
  ·rw [if_pos (by decide)]; exact congrArg some (by decide)
  ·rw [if_pos (by decide)]; exact congrArg some (by decide)
 refine shown_ok 4 (.inr rfl) a hsz _ (by cases q <;> decide) (by cases q <;> decide) (by cases q <;> decide) ?_ ?_
 ·have := cmdMay_4 0 a (by omega) _ _ hp
  rw [Nat.zero_add, h] at this
  exact this
 ·rw [addrPath_eq a (by omega), if_pos (.inr h)]
theorem off_j2 (x0 : ByteArray) (x5 b0 b1 b2 b3 b4 b5 : Bool) (b6 : Int) (h0 : x0.size ≤ 1000000) : EvF (fun k => mailroomlaw07_CmdOffers.j2 k x0 x5 b0 b1 b2 b3 b4 b5 b6) true := by
 refine EvF.succ (g := fun k => (cmd_Rcpt.f k x0 b0 b1 b2 b3 b4 b5 b6 x5).bind fun bt219 => _) (EvF.bind (rcpt_ev x0 h0 b0 b1 b2 b3 b4 b5 b6 x5) ?_) (fun k => by simp only [mailroomlaw07_CmdOffers.j2]; rfl)
 cases h : (addrParse x0.data.toList).isSome with
 | false =>
  have e : rcptC x0 b3 x5 = (0, ⟨#[]⟩, [], 4) := by unfold rcptC; rw [h]; rfl
  rw [e]
  exact EvF.of fun k => by simp
 | true =>
  rw [rcptC_ok x0 b3 x5 h]
  obtain ⟨t, ht, hne⟩ := rcpt_shown x0 (b3 && x5) h
  have hg := get_ev 4 x0 (if (b3 && x5) = true then [⟨⟨#[78, 79, 84, 73, 70, 89]⟩, ⟨#[78, 69, 86, 69, 82]⟩⟩] else []) (⟨#[78, 79, 84, 73, 70, 89]⟩ : ByteArray) (by cases b3 <;> cases x5 <;> decide)
  refine EvF.congr (g := fun k => (cmd_Get.f k 4 x0 (if (b3 && x5) = true then [⟨⟨#[78, 79, 84, 73, 70, 89]⟩, ⟨#[78, 69, 86, 69, 82]⟩⟩] else []) (⟨#[78, 79, 84, 73, 70, 89]⟩ : ByteArray)).bind fun bt226 => _) (EvF.bind hg (EvF.of fun k => ?_)) (fun k => by simp only [if_pos trivial]; rfl)
  have hne2 : ¬ t.data = #[] := by intro e; apply hne; rw [Lib.toList_data, e]
  cases b3 <;> cases x5
  all_goals simp [getF] at ht ⊢
  all_goals (try rw [ht])
  all_goals (try simp [hne2, Lib.toList_data])
theorem off_step (k : Nat) (x0 : ByteArray) (x3 : Bool) (x4 : ByteArray) (x5 : Bool) (x14 : Int) (x16 x18 : Bool) (x19 : ByteArray) (x20 : Bool) (c : Int) (y : List Bool) (i : Nat) (b0 b1 b2 b3 b4 b5 : Bool) (b6 v : Int) (a : ByteArray) (l : List S49) (hi : i < 3) (hy : y.length = 3) (hc : 0 ≤ c) (hc' : c ≤ 10) :
  mailroomlaw07_CmdOffers.l0 (k + 1) x0 x3 x4 x5 x14 x16 x18 x19 x20 c y 3 (i : Int) b0 b1 b2 b3 b4 b5 b6 v a l = mailroomlaw07_CmdOffers.l0 k x0 x3 x4 x5 x14 x16 x18 x19 x20 (if y.getD i false = true then c + 1 else c) y 3 ((i + 1 : Nat) : Int) b0 b1 b2 b3 b4 b5 b6 v a l := by
 have hw : wrap64 ((i : Int) + 1) = ((i + 1 : Nat) : Int) := wrap64_small _ (by omega) (by omega)
 have hw' : wrap64 (c + 1) = c + 1 := wrap64_small _ (by omega) (by omega)
 rw [mailroomlaw07_CmdOffers.l0]
 rw [if_pos (by omega), if_pos (by omega), if_pos (by rw [hy]; omega), hw, hw', show rdOf false y (i : Int) = y.getD i false from by unfold rdOf; rw [Int.toNat_natCast]]
 split <;> rfl
theorem off_end (k : Nat) (x0 : ByteArray) (x3 : Bool) (x4 : ByteArray) (x5 : Bool) (x16 x18 : Bool) (x19 : ByteArray) (x20 : Bool) (c : Int) (y : List Bool) (b0 b1 b2 b3 b4 b5 : Bool) (b6 : Int) (l : List S49)
  (h1 : x16 = b5) (h2 : x18 = (b2 && x3)) (h3 : x20 = (b3 && !x4.data.toList.isEmpty)) (h4 : x20 = true → x19 = x4) (h5 : (l.length : Int) = c) (hsh : ∃ t, mailroomlaw07_shown.f 3 x0 l 0 = some t ∧ ¬ t.toList = ([] : List UInt8)) :
  mailroomlaw07_CmdOffers.l0 (k + 1) x0 x3 x4 x5 0 x16 x18 x19 x20 c y 3 3 b0 b1 b2 b3 b4 b5 b6 3 x0 l = mailroomlaw07_CmdOffers.j2 k x0 x5 b0 b1 b2 b3 b4 b5 b6 := by
 obtain ⟨t, ht, hne⟩ := hsh
 have hx : x4.toList.isEmpty = x4.data.toList.isEmpty := by rw [Lib.toList_data]
 rw [mailroomlaw07_CmdOffers.l0]
 rw [if_neg (by omega), ht, hx]
 simp only [Option.bind_some, if_neg hne]
 generalize mailroomlaw07_CmdOffers.j2 k x0 x5 b0 b1 b2 b3 b4 b5 b6 = z
 clear ht hx
 subst h1 h2 h5
 rw [h3] at h4 ⊢
 generalize x4.data.toList.isEmpty = q at h3 h4 ⊢
 cases x16 <;> cases b2 <;> cases x3 <;> cases b3 <;> cases q <;> simp at h4 ⊢ <;> simp [h4]
theorem offers_ev (a0 : ByteArray) (b0 b1 b2 b3 b4 b5 : Bool) (b6 a2 : Int) (a3 : Bool) (a4 : ByteArray) (a5 : Bool) (ha : a0.size ≤ 140737488355328) (h4 : a4.size ≤ 140737488355328) (h0 : -9223372036854775808 ≤ a2) (h1 : a2 ≤ 9223372036854775807) :
  EvF (fun k => mailroomlaw07_CmdOffers.f k a0 b0 b1 b2 b3 b4 b5 b6 a2 a3 a4 a5) true := by
 have hw : wrap64 ((a0.size : Int) + (a4.size : Int)) = (a0.size : Int) + (a4.size : Int) := wrap64_small _ (by omega) (by omega)
 by_cases hbig : (a0.size : Int) + (a4.size : Int) > 5000
 ·refine EvF.congr (g := fun k => mailroomlaw07_CmdOffers.j0 k a0 a2 a3 a4 a5 true b0 b1 b2 b3 b4 b5 b6) (EvF.succ (g := fun k => (mailroomlaw07_awake.f k).bind fun t => some t) (EvF.bind awake_ev (EvF.of fun k => rfl)) (fun k => by simp only [mailroomlaw07_CmdOffers.j0]; rfl)) fun k => ?_
  unfold mailroomlaw07_CmdOffers.f
  rw [hw, if_pos hbig]
 ·refine EvF.congr (g := fun k => (mailroomlaw07_awake.f k).bind fun t192 => (mailroomlaw07_CmdOffers.j0 k a0 a2 a3 a4 a5 (!t192) b0 b1 b2 b3 b4 b5 b6)) (EvF.bind awake_ev ?_) fun k => by unfold mailroomlaw07_CmdOffers.f; rw [hw, if_neg hbig]
  have hm := cmdMail_eq a0 b0 b1 b2 b3 b4 b5 b6 a2 a3 a4 (by omega) (by omega) h0 h1
  by_cases hb : mailBad a0 a2 a4 = true
  ·have e : mailR a0 b2 b3 b5 a2 a3 a4 = (0, ⟨#[]⟩, [], 4) := by unfold mailR; rw [if_pos hb]
   rw [e] at hm
   refine EvF.succ (off_j2 a0 a5 b0 b1 b2 b3 b4 b5 b6 (by omega)) fun k => ?_
   rw [mailroomlaw07_CmdOffers.j0, hm]
   rfl
  ·have hrow := mailRow_len b5 b2 b3 a3 ⟨(Lib.itoa a2).toArray⟩ a4
   have e : mailR a0 b2 b3 b5 a2 a3 a4 = (3, a0, mailRow b5 b2 b3 a3 ⟨(Lib.itoa a2).toArray⟩ a4, 0) := by unfold mailR; rw [if_neg hb]
   rw [e] at hm
   have hlen := Lib.itoa_length_le a2 h0 h1
   have hns : (⟨(Lib.itoa a2).toArray⟩ : ByteArray).size ≤ 21 := by show (Lib.itoa a2).toArray.size ≤ _; rw [List.size_toArray]; omega
   unfold mailBad at hb
   simp only [Bool.or_eq_true, Bool.not_eq_true', not_or, Bool.not_eq_false, decide_eq_true_eq] at hb
   obtain ⟨⟨⟨hneg, hall⟩, h32⟩, hmay⟩ := hb
   have hparams : cmd_params.f (mailRow b5 b2 b3 a3 ⟨(Lib.itoa a2).toArray⟩ a4) = some true := by
    unfold cmd_params.f
    rw [if_pos (mailRow_small _ _ _ _ _ _ (by omega) (by omega)), mailRow_ok b5 b2 b3 a3 _ a4 (itoa_val a2 (by omega)) (List.all_eq_true.2 fun c hc => idByte_val c (List.all_eq_true.1 hall c hc))]
   have hMay : cmd_May.f 1 3 a0 (mailRow b5 b2 b3 a3 ⟨(Lib.itoa a2).toArray⟩ a4) = some true := by
    have := cmdMay_3 0 a0 (by omega) _ _ hparams
    rw [Nat.zero_add] at this
    rw [this, Bool.and_true]
    congr 1
    rw [Bool.or_eq_true, decide_eq_true_eq]
    exact hmay
   have hsz : a0.size ≤ 320 := by
    rw [← len_eq]
    rcases hmay with h | h
    ·rw [h]; exact Nat.zero_le _
    ·exact addr_size _ h
   have hpath : addr_Path.f a0 = some (((⟨#[60]⟩ : ByteArray) ++ a0) ++ (⟨#[62]⟩ : ByteArray)) := by rw [addrPath_eq a0 (by omega), if_pos hmay]
   have hsum : rowSum (mailRow b5 b2 b3 a3 ⟨(Lib.itoa a2).toArray⟩ a4) ≤ 150 := by
    have e1 : (⟨#[83, 73, 90, 69]⟩ : ByteArray).size = 4 := rfl
    have e2 : (⟨#[82, 69, 81, 85, 73, 82, 69, 84, 76, 83]⟩ : ByteArray).size = 10 := rfl
    have e3 : (⟨#[69, 78, 86, 73, 68]⟩ : ByteArray).size = 5 := rfl
    have e4 : (⟨#[]⟩ : ByteArray).size = 0 := rfl
    generalize (⟨(Lib.itoa a2).toArray⟩ : ByteArray) = n at hns
    unfold mailRow
    generalize (b2 && a3) = x2
    generalize (b3 && (!a4.toList.isEmpty)) = x3
    cases b5 <;> cases x2 <;> cases x3 <;> simp [rowSum, e1, e2, e3, e4] <;> omega
   have hsh := shown_ok 3 (.inl rfl) a0 hsz _ hrow (mailRow_small b5 b2 b3 a3 _ a4 (by omega) (by omega)) hsum hMay hpath
   have g1 := get_ev 3 a0 (mailRow b5 b2 b3 a3 ⟨(Lib.itoa a2).toArray⟩ a4) (⟨#[83, 73, 90, 69]⟩ : ByteArray) (by omega)
   have g2 := get_ev 3 a0 (mailRow b5 b2 b3 a3 ⟨(Lib.itoa a2).toArray⟩ a4) (⟨#[82, 69, 81, 85, 73, 82, 69, 84, 76, 83]⟩ : ByteArray) (by omega)
   have g3 := get_ev 3 a0 (mailRow b5 b2 b3 a3 ⟨(Lib.itoa a2).toArray⟩ a4) (⟨#[69, 78, 86, 73, 68]⟩ : ByteArray) (by omega)
   have hG : (getF [83, 73, 90, 69] (mailRow b5 b2 b3 a3 ⟨(Lib.itoa a2).toArray⟩ a4)).2 = b5 ∧ (getF [82, 69, 81, 85, 73, 82, 69, 84, 76, 83] (mailRow b5 b2 b3 a3 ⟨(Lib.itoa a2).toArray⟩ a4)).2 = (b2 && a3) ∧
     (getF [69, 78, 86, 73, 68] (mailRow b5 b2 b3 a3 ⟨(Lib.itoa a2).toArray⟩ a4)).2 = (b3 && !a4.data.toList.isEmpty) ∧ ((getF [69, 78, 86, 73, 68] (mailRow b5 b2 b3 a3 ⟨(Lib.itoa a2).toArray⟩ a4)).2 = true → (getF [69, 78, 86, 73, 68] (mailRow b5 b2 b3 a3 ⟨(Lib.itoa a2).toArray⟩ a4)).1 = a4) ∧
     ((mailRow b5 b2 b3 a3 ⟨(Lib.itoa a2).toArray⟩ a4).length : Int) = (if (b3 && !a4.data.toList.isEmpty) = true then (if (b2 && a3) = true then (if b5 = true then (0 : Int) + 1 else 0) + 1 else (if b5 = true then (0 : Int) + 1 else 0)) + 1 else (if (b2 && a3) = true then (if b5 = true then (0 : Int) + 1 else 0) + 1 else (if b5 = true then (0 : Int) + 1 else 0))) := by
    generalize (⟨(Lib.itoa a2).toArray⟩ : ByteArray) = n
    unfold mailRow
    rw [Lib.toList_data]
    generalize (b2 && a3) = x2
    generalize (b3 && (!a4.data.toList.isEmpty)) = x3
    cases b5 <;> cases x2 <;> cases x3 <;> simp [getF]
   generalize mailRow b5 b2 b3 a3 ⟨(Lib.itoa a2).toArray⟩ a4 = row at hm hrow hsh g1 g2 g3 hG
   obtain ⟨q1, q2, q3, q4, q5⟩ := hG
   refine EvF.succ (g := fun k => (cmd_Get.f k 3 a0 row (⟨#[83, 73, 90, 69]⟩ : ByteArray)).bind fun bt201 => ((cmd_Get.f k 3 a0 row (⟨#[82, 69, 81, 85, 73, 82, 69, 84, 76, 83]⟩ : ByteArray)).bind fun bt203 => ((cmd_Get.f k 3 a0 row (⟨#[69, 78, 86, 73, 68]⟩ : ByteArray)).bind fun bt205 =>
     mailroomlaw07_CmdOffers.l0 k a0 a3 a4 a5 0 bt201.2 bt203.2 bt205.1 bt205.2 0 [bt201.2, bt203.2, bt205.2] 3 0 b0 b1 b2 b3 b4 b5 b6 3 a0 row))) ?_ (fun k => by rw [mailroomlaw07_CmdOffers.j0, hm]; rfl)
   refine EvF.bind g1 (EvF.bind g2 (EvF.bind g3 ?_))
   show EvF (fun k => mailroomlaw07_CmdOffers.l0 k a0 a3 a4 a5 0 (getF [83, 73, 90, 69] row).2 (getF [82, 69, 81, 85, 73, 82, 69, 84, 76, 83] row).2 (getF [69, 78, 86, 73, 68] row).1 (getF [69, 78, 86, 73, 68] row).2 0 [(getF [83, 73, 90, 69] row).2, (getF [82, 69, 81, 85, 73, 82, 69, 84, 76, 83] row).2, (getF [69, 78, 86, 73, 68] row).2] 3 ((0 : Nat) : Int) b0 b1 b2 b3 b4 b5 b6 3 a0 row) true
   rw [q1, q2, q3] at *
   refine EvF.succ ?_ (fun k => off_step k _ _ _ _ _ _ _ _ _ _ _ 0 _ _ _ _ _ _ _ _ _ _ (by decide) rfl (by omega) (by omega))
   refine EvF.succ ?_ (fun k => off_step k _ _ _ _ _ _ _ _ _ _ _ 1 _ _ _ _ _ _ _ _ _ _ (by decide) rfl (by split <;> omega) (by split <;> omega))
   refine EvF.succ ?_ (fun k => off_step k _ _ _ _ _ _ _ _ _ _ _ 2 _ _ _ _ _ _ _ _ _ _ (by decide) rfl (by split <;> split <;> omega) (by split <;> split <;> omega))
   exact EvF.succ (off_j2 a0 a5 b0 b1 b2 b3 b4 b5 b6 (by omega)) (fun k => off_end k a0 a3 a4 a5 _ _ _ _ _ _ b0 b1 b2 b3 b4 b5 b6 row rfl rfl rfl q4 q5 hsh)
end Go.Proofs.YtljkopbalejcgaaDoor.P
end
section
namespace Go.Proofs.YtljkopbalejcgaaDoor.cmdOffers
open Go.ChangeShapes Go.WideShapes Go.ChangeAt Go.RowKit
open Go.ChangeMaps (open_string shut_string)
set_option linter.unusedVariables false
theorem own : ownKnob Tryd.prog.godebug = none := by kernel_rfl
theorem laidOut : laidOutB Tryd.prog = true := by kernel_rfl
theorem gl {W : World} (h : laidMetH Tryd.prog Rows.cmdOffersRow.laid W) : P.GL W := P.gl_of h (by kernel_rfl)
set_option maxRecDepth 100000 in
theorem contract (H : Type) (enc : TypeId × Value → H) (W : World) (base : Nat) (args : Array Value) (ds gs : List (DataW H)) (before : List MemPlace)
  (hval0 : ∀ (j : Nat) t v, Tryd.f3.params[j]? = some t → args[j]? = some v → Value.okWide Tryd.prog W .any base t v)
  (hW : DataW.Whole enc Tryd.prog Tryd.f3.params.toList Rows.cmdOffersSpec.vars false W args.toList ds gs before)
  (hsz0 : (DataW.weightsEach Tryd.prog (Tryd.f3.params.toList ++ Rows.cmdOffersSpec.plain.varTypes Tryd.prog) (ds ++ gs)).all (· ≤ reachBytes) = true) (hL : laidMetH Tryd.prog Rows.cmdOffersRow.laid W) :
  Calls Tryd.prog 3 args W fun e W' => ∃ v, e = .returned v ∧ Rows.cmdOffersSpec.post enc Tryd.prog Tryd.f3 false true false false W args v W' := by
 have hsz : (DataW.weightsEach Tryd.prog (Tryd.f3.params.toList ++ Rows.cmdOffersSpec.plain.varTypes Tryd.prog) (ds ++ gs)).all (· ≤ reachBytes) = true := hsz0
 have hval : ∀ (j : Nat) t v, Tryd.f3.params[j]? = some t → args[j]? = some v → Value.okWide Tryd.prog W .any base t v := hval0
 have hW' := hW
 obtain ⟨p, q, hA0, hV, rfl, hfz, hnd⟩ := hW
 have hA : DataW.TrodAll enc Tryd.prog W 0 (fun _ => true) true Tryd.f3.params.toList args.toList ds p := hA0
 rw [Tryd.params3] at hA hval hsz
 obtain ⟨v0, vs0, d0, ds0, p0, q0, hargs, rfl, rfl, h0, r0⟩ := trodAll_cons hA
 obtain ⟨v1, vs1, d1, ds1, p1, q1, rfl, rfl, rfl, h1, r1⟩ := trodAll_cons r0
 obtain ⟨v2, vs2, d2, ds2, p2, q2, rfl, rfl, rfl, h2, r2⟩ := trodAll_cons r1
 obtain ⟨v3, vs3, d3, ds3, p3, q3, rfl, rfl, rfl, h3, r3⟩ := trodAll_cons r2
 obtain ⟨v4, vs4, d4, ds4, p4, q4, rfl, rfl, rfl, h4, r4⟩ := trodAll_cons r3
 obtain ⟨v5, vs5, d5, ds5, p5, q5, rfl, rfl, rfl, h5, r5⟩ := trodAll_cons r4
 obtain ⟨rfl, rfl, rfl⟩ := trodAll_nil r5
 obtain rfl : args = #[v0, v1, v2, v3, v4, v5] := by cases args; simp_all
 obtain ⟨rfl, rfl⟩ := trodVars_none hV
 obtain ⟨a0, rfl, rfl, rfl, y0⟩ := open_string Tryd.underlying9 (hval 0 9 v0 rfl rfl) h0
 have w0 : a0.size ≤ 140737488351232 := by
  have z := sized_string hsz (j := 0) (t := 9) rfl rfl
  rw [Array.length_toList] at z
  exact z
 obtain ⟨b1_0, b1_1, b1_2, b1_3, b1_4, b1_5, b1_6, rfl⟩ := P.open_caps (hval 1 23 v1 rfl rfl) h1
 have lt1 : ∀ x ∈ p1, x.block < W.heap.size := by obtain ⟨m, hm⟩ := h1; exact DataW.trod_lt m _ _ _ hm
 obtain ⟨a2, rfl, rfl, rfl, w2⟩ := open_int Tryd.underlying3 (hval 2 3 v2 rfl rfl) h2
 have z2 : -9223372036854775808 ≤ a2 ∧ a2 ≤ 9223372036854775807 := by
  have w := w2
  simp [Lit.wf, IntKind.min, IntKind.max, IntKind.signed, IntKind.bits] at w
  omega
 obtain ⟨a3, rfl, rfl, rfl⟩ := open_bool Tryd.underlying4 (hval 3 4 v3 rfl rfl) h3
 obtain ⟨a4, rfl, rfl, rfl, y4⟩ := open_string Tryd.underlying9 (hval 4 9 v4 rfl rfl) h4
 have w4 : a4.size ≤ 140737488351232 := by
  have z := sized_string hsz (j := 4) (t := 9) rfl rfl
  rw [Array.length_toList] at z
  exact z
 obtain ⟨a5, rfl, rfl, rfl⟩ := open_bool Tryd.underlying4 (hval 5 4 v5 rfl rfl) h5
 clear hA0 hval0 hsz0 hsz
 obtain ⟨k, hk⟩ := P.offers_ev a0 b1_0 b1_1 b1_2 b1_3 b1_4 b1_5 b1_6 a2 a3 a4 a5 (by omega) (by omega) z2.1 z2.2
 refine (P.mailroomlaw07_CmdOffers.calls k a0 b1_0 b1_1 b1_2 b1_3 b1_4 b1_5 b1_6 a2 a3 a4 a5 true W  (hk k (Nat.le_refl _)) ⟨rfl⟩ (gl hL)).mono fun e W' ⟨he, bel⟩ => ?_
 subst he
 exact ⟨_, rfl, _, _, _, [], _, [], hW', trodAll_mk1 (shut_bool Tryd.underlying4 _), (trodAll_cons_mk (shut_string Tryd.underlying9 y0) (trodAll_cons_mk (Below.trod laidOut (by kernel_rfl) (of_decide_eq_true (by kernel_rfl)) h1 bel lt1) (trodAll_cons_mk (shut_int Tryd.underlying3 w2) (trodAll_cons_mk (shut_bool Tryd.underlying4 _) (trodAll_cons_mk (shut_string Tryd.underlying9 y4) (trodAll_cons_mk (shut_bool Tryd.underlying4 _) trodAll_mk0)))))), rfl, bel.frame _, fun h => by cases h⟩
def litCells : DataW Unit → Array Value
 | .agg l => (l.map fun | .lit (.int k n) => .int k n | _ => .bool false).toArray
 | _ => #[]
def fill (cs : Array Value) : Obj → Obj
 | .cells _ t frozen => .cells cs t frozen
 | o => o
noncomputable def laidWorld (os : Os) : World :=
 { World.holding Tryd.prog os ⟨#[], #[], []⟩ with heap := (((World.holding Tryd.prog os ⟨#[], #[], []⟩).heap.modify 1 (fill (litCells Rows.laid_internal_strconv_uint64pow10))).modify 2 (fill (litCells Rows.laid_math_bits_deBruijn32tab))).modify 3 (fill (litCells Rows.laid_math_bits_deBruijn64tab)) }
def wArgs : Array Value := #[.string ⟨#[]⟩, .agg #[.bool false, .bool false, .bool false, .bool false, .bool false, .bool false, .int .i64 0], .int .i64 0, .bool false, .string ⟨#[]⟩, .bool false]
theorem laid_met (os : Os) : laidMet Tryd.prog Rows.cmdOffersRow.laid ((laidWorld os).forCall (fun _ _ => 0) ⟨#[], wArgs, []⟩).memory :=
 laidMet_of_run' 8 (by kernel_rfl) (by kernel_rfl)
theorem reads (os : Os) {H : Type} (enc : TypeId × Value → H) : ∃ places, DataW.whole enc Tryd.prog ((laidWorld os).forCall (fun _ _ => 0) ⟨#[], wArgs, []⟩).memory Tryd.f3.params.toList Rows.cmdOffersSpec.vars false wArgs.toList 8 = some ([.lit (.string []), .agg [.lit (.bool false), .lit (.bool false), .lit (.bool false), .lit (.bool false), .lit (.bool false), .lit (.bool false), .lit (.int .i64 0)], .lit (.int .i64 0), .lit (.bool false), .lit (.string []), .lit (.bool false)], [], places) :=
 ⟨[], by kernel_rfl⟩
set_option maxRecDepth 100000 in
theorem lifted (os : Os) (started : os.Started) (H : Type) (enc : TypeId × Value → H) (F : Stop.Interp) :
  ReturnsInHanded {} Tryd.checked os 3 .any ((OpenSpec.ofChange Rows.cmdOffersSpec).preRow enc Tryd.prog Tryd.f3 Rows.cmdOffersRow.domain false Rows.cmdOffersRow.laid) (((OpenSpec.ofChange Rows.cmdOffersSpec).at F).post enc Tryd.prog Tryd.f3 false true false false) := by
 obtain ⟨places, hx⟩ := reads os enc
 refine returnsInHanded_of_row (C := Tryd.checked) (s := OpenSpec.ofChange Rows.cmdOffersSpec) own started (by kernel_rfl) Tryd.func3
  (witness_row_at (enc := enc) (C := Tryd.checked) false (laidWorld os) wArgs rfl (by kernel_rfl) (by kernel_rfl) (by kernel_rfl)
   (OpenSpec.preRow_of_cond 8 hx (by kernel_rfl) (fun k hk => by cases hk) (by kernel_rfl) (laid_met os))) ?_
 intro W base args ds gs before hval hW _ _ hsz hL _ _
 exact contract H enc W base args ds gs before hval hW hsz hL
theorem said : Rows.CmdOffersSaid :=
 OpenClaim.holds_of_cond 3 Tryd.f3 rfl rfl rfl rfl rfl rfl rfl ⟨rfl, rfl, rfl, rfl, rfl⟩ rfl rfl rfl rfl rfl (by kernel_rfl) Tryd.func3 (by kernel_rfl)
  (of_decide_eq_true (by kernel_rfl)) (by unfold Func.isWrapper; first | (rw [if_pos (by decide +kernel)]; kernel_rfl) | (rw [if_neg (by decide +kernel)]; exact ⟨rfl, rfl⟩))
  (fun os started H enc _ F => by rw [OpenClaim.pre_eq_preRow]; exact lifted os started H enc F)
theorem plain (f : FuncId) (fn : Func) (hf : Tryd.pinned.checked.prog.funcNamed "mailroom/mailroomlaw07.CmdOffers" = some f) (hfn : Tryd.pinned.checked.prog.funcs[f]? = some fn) :
  false = Tryd.pinned.checked.prog.looks [] ∧ ∀ (j : Nat) t, fn.params[j]? = some t → Tryd.pinned.checked.prog.wantsStandIn t = false := by
 obtain rfl : f = 3 := Option.some.inj ((show Tryd.prog.funcNamed "mailroom/mailroomlaw07.CmdOffers" = some 3 by kernel_rfl).symm.trans hf) |>.symm
 obtain rfl : fn = Tryd.f3 := (Option.some.inj (Tryd.func3.symm.trans hfn)).symm
 refine ⟨by kernel_rfl, fun j t ht => ?_⟩
 have hall : (Tryd.f3.params.toList.all fun t => !Tryd.prog.wantsStandIn t) = true := by kernel_rfl
 have h1 := List.all_eq_true.1 hall t (Array.mem_toList_iff.2 (Array.mem_of_getElem? ht))
 have h2 : Tryd.prog.wantsStandIn t = false := by simpa using h1
 exact h2
theorem card : Rows.CmdOffersCardSaid :=
 Claim7.holds_tied_plain_at .later [] _ _ _ _ said (fun _ h => by cases h) (by kernel_rfl) (fun _ h => by cases h) cmdOffers_row_tie rfl ⟨rfl, rfl⟩ (by kernel_rfl) rfl plain (by kernel_rfl)
end Go.Proofs.YtljkopbalejcgaaDoor.cmdOffers
end
