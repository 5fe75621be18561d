import Derived.Test.YtljkopbalejcgaaGreatDoorMa1
section
namespace Go.Proofs.YtljkopbalejcgaaGreatDoor.P
open Go.RowKit Go.Proofs.YtljkopbalejcgaaGreatDoorW.PrintWords Go.Proofs.YtljkopbalejcgaaGreatDoorW.PrintLast Go.Proofs.YtljkopbalejcgaaGreatDoorW.PrintMore
attribute [local go_sem] max2_int min2_int max_two min_two max_three min_three max_four min_four
set_option linter.unusedVariables false
set_option linter.unusedSimpArgs false
mutual
def mailroomref04_atoms.j0 : Nat → ByteArray → Bool → Option (Bool)
 | 0, _, _ => none
 | k + 1, x0, x18 => if x18 = true then (some false) else (mailroomref04_atoms.l0 k x0 0)
def mailroomref04_atoms.l0 : Nat → ByteArray → Int → Option (Bool)
 | 0, _, _ => none
 | k + 1, x0, x3 => if x3 < (x0.size : Int) then (if 0 ≤ x3 then (if (bt x0 x3) = 46 then (if 0 ≤ (wrap64 (x3 - 1)) then (if (wrap64 (x3 - 1)) < (x0.size : Int) then (if (bt x0 (wrap64 (x3 - 1))) = 46 then (some false) else (mailroomref04_atoms.l0 k x0 (wrap64 (x3 + 1)))) else (none)) else (none)) else ((mailroomref04_sign.f (bt x0 x3)).bind fun t205 => (if t205 = true then (mailroomref04_atoms.l0 k x0 (wrap64 (x3 + 1))) else (some false)))) else (none)) else (some true)
end
def mailroomref04_atoms.f (k : Nat) (a0 : ByteArray) : Option (Bool) := if a0.toList = ([] : List UInt8) then (mailroomref04_atoms.j0 k a0 true) else (if 0 < (a0.size : Int) then (if (bt a0 0) = 46 then (mailroomref04_atoms.j0 k a0 true) else (if 0 ≤ (wrap64 ((a0.size : Int) - 1)) then (if (wrap64 ((a0.size : Int) - 1)) < (a0.size : Int) then (mailroomref04_atoms.j0 k a0 ((bt a0 (wrap64 ((a0.size : Int) - 1))) == 46)) else (none)) else (none))) else (none))
theorem mailroomref04_atoms.mono_l : ∀ k, (∀ y0 y1, LeO (mailroomref04_atoms.j0 k y0 y1) (mailroomref04_atoms.j0 (k + 1) y0 y1)) ∧ (∀ y0 y1, LeO (mailroomref04_atoms.l0 k y0 y1) (mailroomref04_atoms.l0 (k + 1) y0 y1))
 | 0 => ⟨fun _ _ r h => by simp [mailroomref04_atoms.j0] at h, fun _ _ r h => by simp [mailroomref04_atoms.l0] at h⟩
 | k + 1 => by
  obtain ⟨ih0, ih1⟩ := mailroomref04_atoms.mono_l k
  refine ⟨?_, ?_⟩
  ·intro y0 y1
   unfold mailroomref04_atoms.j0
   repeat' first
   | (with_reducible exact ih0 _ _)
   | (with_reducible exact ih1 _ _)
   | (with_reducible exact LeO.refl _)
   | (with_reducible exact LeO.none _)
   | (with_reducible refine LeO.ite ?_ ?_)
   | (with_reducible refine LeO.bind ?_ (fun _ => ?_))
   | exact ih0 _ _
   | exact ih1 _ _
   | exact LeO.none _
   | refine LeO.ite ?_ ?_
   | refine LeO.bind ?_ (fun _ => ?_)
  ·intro y0 y1
   unfold mailroomref04_atoms.l0
   repeat' first
   | (with_reducible exact ih0 _ _)
   | (with_reducible exact ih1 _ _)
   | (with_reducible exact LeO.refl _)
   | (with_reducible exact LeO.none _)
   | (with_reducible refine LeO.ite ?_ ?_)
   | (with_reducible refine LeO.bind ?_ (fun _ => ?_))
   | exact ih0 _ _
   | exact ih1 _ _
   | exact LeO.none _
   | refine LeO.ite ?_ ?_
   | refine LeO.bind ?_ (fun _ => ?_)
theorem mailroomref04_atoms.mono : ∀ a0 k, LeO (mailroomref04_atoms.f k a0) (mailroomref04_atoms.f (k + 1) a0) := by
 intro a0 k
 obtain ⟨ih0, ih1⟩ := mailroomref04_atoms.mono_l k
 unfold mailroomref04_atoms.f
 repeat' first
   | (with_reducible exact ih0 _ _)
   | (with_reducible exact ih1 _ _)
   | (with_reducible exact LeO.refl _)
   | (with_reducible exact LeO.none _)
   | (with_reducible refine LeO.ite ?_ ?_)
   | (with_reducible refine LeO.bind ?_ (fun _ => ?_))
   | exact ih0 _ _
   | exact ih1 _ _
   | exact LeO.none _
   | refine LeO.ite ?_ ?_
   | refine LeO.bind ?_ (fun _ => ?_)
set_option maxHeartbeats 8000000 in
set_option maxRecDepth 100000 in
theorem mailroomref04_atoms.calls (k : Nat) (a0 : ByteArray) (r : Bool) (w : World) (h : mailroomref04_atoms.f k a0 = some r) :
  Calls Tryz.prog 80 #[.string a0] w fun e w' => e = .returned (.bool r) ∧ Drawn0 w w' := by
 have H : (if a0.toList = ([] : List UInt8) then (mailroomref04_atoms.j0 k a0 true) else (if 0 < (a0.size : Int) then (if (bt a0 0) = 46 then (mailroomref04_atoms.j0 k a0 true) else (if 0 ≤ (wrap64 ((a0.size : Int) - 1)) then (if (wrap64 ((a0.size : Int) - 1)) < (a0.size : Int) then (mailroomref04_atoms.j0 k a0 ((bt a0 (wrap64 ((a0.size : Int) - 1))) == 46)) else (none)) else (none))) else (none))) = some r := h
 clear h
 have HC2 := Aside0.mk H
 clear H
 go_enter Tryz.func80, Tryz.ntmps80
 go_upto_region 1 with (fail)
 go_cut [18] (fun v18 wc => ∃ (kq : Nat) (x18_1 : Bool), v18 = .bool x18_1 ∧ Aside0 (mailroomref04_atoms.j0 kq a0 x18_1 = some r) ∧ Aside0 (kq ≤ k) ∧ Drawn0 w wc)
 case first =>
  have H := HC2.out
  clear HC2
  by_cases c3 : a0.toList = ([] : List UInt8)
  ·rw [if_pos c3] at H
   have c3b0 : (a0.toList == ([] : List UInt8)) = true := beq_iff_eq.mpr c3
   have c3b1 : (a0.toList != ([] : List UInt8)) = false := bne_eq_false_iff_eq.mpr c3
   clear c3
   (first | rw [c3b0] | (simp only [i64_w, i32_w]; rw [c3b0]) | skip)
   have H' := Aside0.mk H
   clear H
   go_wp2
   go_meet
   case rel => exact ⟨_, (true), (by first | rfl | (simp; done) | (simp [*]; done)), H', ⟨by first | omega | exact Nat.le_refl _⟩, by repeat (first | exact Drawn0.refl _ | apply Drawn0.step)⟩
  ·rw [if_neg c3] at H
   have c3b0 : (a0.toList == ([] : List UInt8)) = false := beq_eq_false_iff_ne.mpr c3
   have c3b1 : (a0.toList != ([] : List UInt8)) = true := bne_iff_ne.mpr c3
   (first | rw [c3b0] | (simp only [i64_w, i32_w]; rw [c3b0]) | skip)
   by_cases c4 : 0 < (a0.size : Int)
   ·rw [if_pos c4] at H
    have c4b0 : decide (0 < (a0.size : Int)) = true := decide_eq_true c4
    have c4b1 : decide (0 < a0.size) = true := decide_eq_true (by omega)
    clear c4
    by_cases c6 : (bt a0 0) = 46
    ·rw [if_pos c6] at H
     have c6b0 : ((bt a0 0) == 46) = true := beq_iff_eq.mpr c6
     have c6b1 : ((bt a0 0) != 46) = false := bne_eq_false_iff_eq.mpr c6
     clear c6
     have H' := Aside0.mk H
     clear H
     have p5 : 0 ≤ (0 : Int) := (by omega)
     have q5 : 0 < a0.size := (by have : (0 : Int) < (a0.size : Int) := of_decide_eq_true (by first | (with_reducible assumption) | assumption); omega)
     have hx5 : ∀ h : 0 < a0.size, ((a0[0]'h).toNat : Int) = bt a0 0 := bt_at a0 0
     clear p5
     have qi5 : (0 < (a0.size : Int)) = True := eq_true (of_decide_eq_true (by first | (with_reducible assumption) | assumption))
     replace q5 := eq_true q5
     go_wp2
     go_meet
     case rel => exact ⟨_, (true), (by first | rfl | (simp; done) | (simp [*]; done)), H', ⟨by first | omega | exact Nat.le_refl _⟩, by repeat (first | exact Drawn0.refl _ | apply Drawn0.step)⟩
    ·rw [if_neg c6] at H
     have c6b0 : ((bt a0 0) == 46) = false := beq_eq_false_iff_ne.mpr c6
     have c6b1 : ((bt a0 0) != 46) = true := bne_iff_ne.mpr c6
     obtain ⟨ji7, hji7⟩ : ∃ j_ : Int, (wrap64 ((a0.size : Int) - 1)) = j_ := ⟨_, rfl⟩
     replace H : (if 0 ≤ (ji7) then (if (ji7) < (a0.size : Int) then (mailroomref04_atoms.j0 k a0 ((bt a0 (ji7)) == 46)) else (none)) else (none)) = some r := by first | (rw [hji7] at H; exact H) | (simp only [hji7] at H ⊢; exact H)
     have hji7w : (IntKind.i64.wrap ((a0.size : Int) - 1)) = ji7 := (i64_w _).trans hji7
     by_cases c8 : 0 ≤ (ji7)
     ·rw [if_pos c8] at H
      have c8b0 : decide (0 ≤ (ji7)) = true := decide_eq_true c8
      clear c8
      by_cases c9 : (ji7) < (a0.size : Int)
      ·rw [if_pos c9] at H
       have c9b0 : decide ((ji7) < (a0.size : Int)) = true := decide_eq_true c9
       clear c9
       have H' := Aside0.mk H
       clear H
       have p5 : 0 ≤ (0 : Int) := (by omega)
       have q5 : 0 < a0.size := (by have : (0 : Int) < (a0.size : Int) := of_decide_eq_true (by first | (with_reducible assumption) | assumption); omega)
       have hx5 : ∀ h : 0 < a0.size, ((a0[0]'h).toNat : Int) = bt a0 0 := bt_at a0 0
       clear p5
       have qi5 : (0 < (a0.size : Int)) = True := eq_true (of_decide_eq_true (by first | (with_reducible assumption) | assumption))
       replace q5 := eq_true q5
       have p10 : 0 ≤ ((ji7) : Int) := of_decide_eq_true (by first | (with_reducible assumption) | assumption)
       have q10 : (ji7) < (a0.size : Int) := of_decide_eq_true (by first | (with_reducible assumption) | assumption)
       have hx10 := bt_at a0 (ji7)
       replace p10 := eq_true p10
       replace q10 := eq_true q10
       go_wp2
       go_meet
       case rel => exact ⟨_, (((bt a0 (ji7)) == 46)), (by first | rfl | (simp; done) | (simp only [← hji7] <;> (first | rfl | simp)) | (simp [*]; done)), H', ⟨by first | omega | exact Nat.le_refl _⟩, by repeat (first | exact Drawn0.refl _ | apply Drawn0.step)⟩
      ·rw [if_neg c9] at H
       exact absurd H (by simp)
     ·rw [if_neg c8] at H
      exact absurd H (by simp)
   ·rw [if_neg c4] at H
    exact absurd H (by simp)
 case rest =>
  clear HC2
  try clear p1
  try clear q1
  try clear hx1
  try clear p2
  try clear c3
  try clear c3b0
  try clear c3b1
  try clear c4
  try clear c4b0
  try clear c4b1
  try clear p5
  try clear q5
  try clear hx5
  try clear qi5
  try clear c6
  try clear c6b0
  try clear c6b1
  try clear p6
  try clear c8
  try clear c8b0
  try clear c9
  try clear c9b0
  try clear p10
  try clear q10
  try clear hx10
  try clear p10
  try clear p5
  try clear q10
  try clear q5
  obtain ⟨kq, x18_1, rfl, HA, HJ1, ⟨mc1, rfl⟩⟩ := hcut
  cases kq with
  | zero => exact absurd HA.out (by simp [mailroomref04_atoms.j0])
  | succ kj1 =>
   have H := HA.out
   clear HA
   simp only [mailroomref04_atoms.j0] at H
   by_cases c11 : x18_1 = true
   ·subst c11
    have H1 : (some false) = some r := by rw [if_pos rfl] at H; exact H
    clear H
    have H := H1
    clear H1
    obtain rfl := Option.some.inj H
    go_wp2
    go_ret
    exact ⟨by first | rfl | (simp; done) | (simp [*]; done), by repeat (first | exact Drawn0.refl _ | apply Drawn0.step)⟩
   ·replace c11 := Bool.eq_false_iff.mpr c11
    subst c11
    have H1 : (mailroomref04_atoms.l0 kj1 a0 0) = some r := by rw [if_neg (show ¬ (false = true) by decide)] at H; exact H
    clear H
    have H := H1
    clear H1
    have H' := Aside0.mk H
    clear H
    go_wp2
    go_loopg [3] kj1 (fun kq v3 w' => ∃ (x3_2 : Int), v3 = .int .i64 x3_2 ∧ Aside0 (mailroomref04_atoms.l0 kq a0 x3_2 = some r) ∧ Aside0 (kq ≤ kj1) ∧ Drawn0 w w')
    case atStart => exact ⟨(0), (by first | rfl | (simp; done) | (simp [*]; done)), H', ⟨Nat.le_refl _⟩, by repeat (first | exact Drawn0.refl _ | apply Drawn0.step)⟩
    case round =>
     clear H'
     try clear c1
     try clear p1
     try clear q1
     try clear hx1
     try clear p2
     try clear c3
     try clear c3b0
     try clear c3b1
     try clear c4
     try clear c4b0
     try clear c4b1
     try clear p5
     try clear q5
     try clear hx5
     try clear qi5
     try clear c6
     try clear c6b0
     try clear c6b1
     try clear p6
     try clear c8
     try clear c8b0
     try clear c9
     try clear c9b0
     try clear p10
     try clear q10
     try clear hx10
     try clear c11
     try clear p1
     try clear p10
     try clear p2
     try clear p5
     try clear p6
     try clear q1
     try clear q10
     try clear q5
     obtain ⟨x3_2, rfl, HA, HK2, ⟨m2, rfl⟩⟩ := hrel
     cases gk with
     | zero => exact absurd HA.out (by simp [mailroomref04_atoms.l0])
     | succ k2 =>
      have H := HA.out
      clear HA
      simp only [mailroomref04_atoms.l0] at H
      by_cases c12 : x3_2 < (a0.size : Int)
      ·rw [if_pos c12] at H
       have c12b0 : decide (x3_2 < (a0.size : Int)) = true := decide_eq_true c12
       clear c12
       by_cases c13 : 0 ≤ x3_2
       ·rw [if_pos c13] at H
        have c13b0 : decide (0 ≤ x3_2) = true := decide_eq_true c13
        clear c13
        by_cases c15 : (bt a0 x3_2) = 46
        ·rw [if_pos c15] at H
         have c15b0 : ((bt a0 x3_2) == 46) = true := beq_iff_eq.mpr c15
         have c15b1 : ((bt a0 x3_2) != 46) = false := bne_eq_false_iff_eq.mpr c15
         clear c15
         obtain ⟨ji16, hji16⟩ : ∃ j_ : Int, (wrap64 (x3_2 - 1)) = j_ := ⟨_, rfl⟩
         replace H : (if 0 ≤ (ji16) then (if (ji16) < (a0.size : Int) then (if (bt a0 (ji16)) = 46 then (some false) else (mailroomref04_atoms.l0 k2 a0 (wrap64 (x3_2 + 1)))) else (none)) else (none)) = some r := by first | (rw [hji16] at H; exact H) | (simp only [hji16] at H ⊢; exact H)
         have hji16w : (IntKind.i64.wrap (x3_2 - 1)) = ji16 := (i64_w _).trans hji16
         by_cases c17 : 0 ≤ (ji16)
         ·rw [if_pos c17] at H
          have c17b0 : decide (0 ≤ (ji16)) = true := decide_eq_true c17
          clear c17
          by_cases c18 : (ji16) < (a0.size : Int)
          ·rw [if_pos c18] at H
           have c18b0 : decide ((ji16) < (a0.size : Int)) = true := decide_eq_true c18
           clear c18
           by_cases c20 : (bt a0 (ji16)) = 46
           ·rw [if_pos c20] at H
            have c20b0 : ((bt a0 (ji16)) == 46) = true := beq_iff_eq.mpr c20
            have c20b1 : ((bt a0 (ji16)) != 46) = false := bne_eq_false_iff_eq.mpr c20
            clear c20
            obtain rfl := Option.some.inj H
            have p14 : 0 ≤ (x3_2 : Int) := of_decide_eq_true (by first | (with_reducible assumption) | assumption)
            have q14 : x3_2 < (a0.size : Int) := of_decide_eq_true (by first | (with_reducible assumption) | assumption)
            have hx14 := bt_at a0 x3_2
            replace p14 := eq_true p14
            replace q14 := eq_true q14
            have p19 : 0 ≤ ((ji16) : Int) := of_decide_eq_true (by first | (with_reducible assumption) | assumption)
            have q19 : (ji16) < (a0.size : Int) := of_decide_eq_true (by first | (with_reducible assumption) | assumption)
            have hx19 := bt_at a0 (ji16)
            replace p19 := eq_true p19
            replace q19 := eq_true q19
            go_wp2
            go_ret
            exact ⟨by first | rfl | (simp; done) | (simp only [← hji16] <;> (first | rfl | simp)) | (simp [*]; done), by repeat (first | exact Drawn0.refl _ | apply Drawn0.step)⟩
           ·rw [if_neg c20] at H
            have c20b0 : ((bt a0 (ji16)) == 46) = false := beq_eq_false_iff_ne.mpr c20
            have c20b1 : ((bt a0 (ji16)) != 46) = true := bne_iff_ne.mpr c20
            have H' := Aside0.mk H
            clear H
            have p14 : 0 ≤ (x3_2 : Int) := of_decide_eq_true (by first | (with_reducible assumption) | assumption)
            have q14 : x3_2 < (a0.size : Int) := of_decide_eq_true (by first | (with_reducible assumption) | assumption)
            have hx14 := bt_at a0 x3_2
            replace p14 := eq_true p14
            replace q14 := eq_true q14
            have p19 : 0 ≤ ((ji16) : Int) := of_decide_eq_true (by first | (with_reducible assumption) | assumption)
            have q19 : (ji16) < (a0.size : Int) := of_decide_eq_true (by first | (with_reducible assumption) | assumption)
            have hx19 := bt_at a0 (ji16)
            replace p19 := eq_true p19
            replace q19 := eq_true q19
            have p21 : 0 ≤ (x3_2 : Int) := of_decide_eq_true (by first | (with_reducible assumption) | assumption)
            have q21 : x3_2 < (a0.size : Int) := of_decide_eq_true (by first | (with_reducible assumption) | assumption)
            have hx21 := bt_at a0 x3_2
            replace p21 := eq_true p21
            replace q21 := eq_true q21
            go_wp2
            go_roundg k2
            case measure => have := HJ1.out; have := HK2.out; omega
            case rel => exact ⟨(wrap64 (x3_2 + 1)), (by first | rfl | (simp; done) | (simp [*]; done)), H', ⟨by have := HJ1.out; have := HK2.out; omega⟩, by repeat (first | exact Drawn0.refl _ | apply Drawn0.step)⟩
          ·rw [if_neg c18] at H
           exact absurd H (by simp)
         ·rw [if_neg c17] at H
          exact absurd H (by simp)
        ·rw [if_neg c15] at H
         have c15b0 : ((bt a0 x3_2) == 46) = false := beq_eq_false_iff_ne.mpr c15
         have c15b1 : ((bt a0 x3_2) != 46) = true := bne_iff_ne.mpr c15
         replace H := Option.bind_eq_some_iff.mp H
         obtain ⟨t205, A240, H⟩ := H
         replace H : (if t205 = true then (mailroomref04_atoms.l0 k2 a0 (wrap64 (x3_2 + 1))) else (some false)) = some r := H
         have A24 := Aside0.mk A240
         clear A240
         by_cases c25 : t205 = true
         ·subst c25
          have H1 : (mailroomref04_atoms.l0 k2 a0 (wrap64 (x3_2 + 1))) = some r := by rw [if_pos rfl] at H; exact H
          clear H
          have H := H1
          clear H1
          have H' := Aside0.mk H
          clear H
          have p14 : 0 ≤ (x3_2 : Int) := of_decide_eq_true (by first | (with_reducible assumption) | assumption)
          have q14 : x3_2 < (a0.size : Int) := of_decide_eq_true (by first | (with_reducible assumption) | assumption)
          have hx14 := bt_at a0 x3_2
          replace p14 := eq_true p14
          replace q14 := eq_true q14
          have p22 : 0 ≤ (x3_2 : Int) := of_decide_eq_true (by first | (with_reducible assumption) | assumption)
          have q22 : x3_2 < (a0.size : Int) := of_decide_eq_true (by first | (with_reducible assumption) | assumption)
          have hx22 := bt_at a0 x3_2
          replace p22 := eq_true p22
          replace q22 := eq_true q22
          have p23 : 0 ≤ (x3_2 : Int) := of_decide_eq_true (by first | (with_reducible assumption) | assumption)
          have q23 : x3_2 < (a0.size : Int) := of_decide_eq_true (by first | (with_reducible assumption) | assumption)
          have hx23 := bt_at a0 x3_2
          replace p23 := eq_true p23
          replace q23 := eq_true q23
          go_wp2_with (first | (go_at_call 92; (with_reducible refine (mailroomref04_sign.calls (bt a0 x3_2) true _ A24.out).mono ?_); rintro e w' ⟨rfl, ⟨nd, rfl⟩⟩))
          go_roundg k2
          case measure => have := HJ1.out; have := HK2.out; omega
          case rel => exact ⟨(wrap64 (x3_2 + 1)), (by first | rfl | (simp; done) | (simp [*]; done)), H', ⟨by have := HJ1.out; have := HK2.out; omega⟩, by repeat (first | exact Drawn0.refl _ | apply Drawn0.step)⟩
         ·replace c25 := Bool.eq_false_iff.mpr c25
          subst c25
          have H1 : (some false) = some r := by rw [if_neg (show ¬ (false = true) by decide)] at H; exact H
          clear H
          have H := H1
          clear H1
          obtain rfl := Option.some.inj H
          have p14 : 0 ≤ (x3_2 : Int) := of_decide_eq_true (by first | (with_reducible assumption) | assumption)
          have q14 : x3_2 < (a0.size : Int) := of_decide_eq_true (by first | (with_reducible assumption) | assumption)
          have hx14 := bt_at a0 x3_2
          replace p14 := eq_true p14
          replace q14 := eq_true q14
          have p22 : 0 ≤ (x3_2 : Int) := of_decide_eq_true (by first | (with_reducible assumption) | assumption)
          have q22 : x3_2 < (a0.size : Int) := of_decide_eq_true (by first | (with_reducible assumption) | assumption)
          have hx22 := bt_at a0 x3_2
          replace p22 := eq_true p22
          replace q22 := eq_true q22
          have p23 : 0 ≤ (x3_2 : Int) := of_decide_eq_true (by first | (with_reducible assumption) | assumption)
          have q23 : x3_2 < (a0.size : Int) := of_decide_eq_true (by first | (with_reducible assumption) | assumption)
          have hx23 := bt_at a0 x3_2
          replace p23 := eq_true p23
          replace q23 := eq_true q23
          go_wp2_with (first | (go_at_call 92; (with_reducible refine (mailroomref04_sign.calls (bt a0 x3_2) false _ A24.out).mono ?_); rintro e w' ⟨rfl, ⟨nd, rfl⟩⟩))
          go_ret
          exact ⟨by first | rfl | (simp; done) | (simp [*]; done), by repeat (first | exact Drawn0.refl _ | apply Drawn0.step)⟩
       ·rw [if_neg c13] at H
        exact absurd H (by simp)
      ·rw [if_neg c12] at H
       have c12b0 : decide (x3_2 < (a0.size : Int)) = false := decide_eq_false c12
       clear c12
       obtain rfl := Option.some.inj H
       go_wp2
       go_ret
       exact ⟨by first | rfl | (simp; done) | (simp [*]; done), by repeat (first | exact Drawn0.refl _ | apply Drawn0.step)⟩
end Go.Proofs.YtljkopbalejcgaaGreatDoor.P
end
section
set_option linter.unusedVariables false
set_option linter.unusedSimpArgs false
namespace Go.Proofs.YtljkopbalejcgaaGreatDoor.P
open Go Go.RowKit Go.Lib Go.Proofs.YtljkopbalejcgaaGreatDoorW.PrintWords
theorem sign_all : ((List.range 256).all fun n => signI (n : Int) == atomByte (UInt8.ofNat n)) = true := by decide +kernel
theorem sign_ev (c : UInt8) : mailroomref04_sign.f (c.toNat : Int) = some (atomByte c) := by
 unfold mailroomref04_sign.f
 have h := List.all_eq_true.1 sign_all c.toNat (List.mem_range.2 c.toNat_lt)
 rw [beq_iff_eq.1 h, UInt8.ofNat_toNat]
def wasDot (s : ByteArray) (i : Nat) : Bool := if i = 0 then true else bt s ((i - 1 : Nat) : Int) == 46
theorem atoms_l (s : ByteArray) (hs : s.size ≤ 1000000) (h0 : 0 < s.size) (hd : ¬ bt s 0 = 46) (i : Nat) (hi : i ≤ s.size) : EvF (fun k => mailroomref04_atoms.l0 k s (i : Int)) (runS atomStep atomOk (wasDot s i) (s.data.toList.drop i)).1 := by
 refine EvF.down (L := fun k i => mailroomref04_atoms.l0 k s (i : Int)) (V := fun i => (runS atomStep atomOk (wasDot s i) (s.data.toList.drop i)).1) s.size (fun i hi ih => ?_) i hi
 by_cases h : i < s.size
 ·have hw : wrap64 ((i : Int) + 1) = ((i + 1 : Nat) : Int) := wrap64_small _ (by omega) (by omega)
  have hbt := bt_nat s i h
  have hb46 : (s[i] == 46) = (bt s (i : Int) == 46) := by rw [hbt]; exact u8_beq s[i] 46
  have hnext : atomStep (wasDot s i) s[i] = wasDot s (i + 1) := by
   unfold atomStep wasDot; rw [if_neg (by omega), show i + 1 - 1 = i by omega, ← hb46]
  refine EvF.succ (g := fun k => if atomOk (wasDot s i) s[i] = true then mailroomref04_atoms.l0 k s ((i + 1 : Nat) : Int) else some false) ?_ (fun k => ?_)
  ·show EvF _ (runS atomStep atomOk (wasDot s i) (s.data.toList.drop i)).1
   rw [drop_at s i h]
   simp only [runS]
   cases atomOk (wasDot s i) s[i] with
   | false => exact EvF.of fun k => rfl
   | true => rw [if_pos rfl, hnext]; exact (ih h).congr fun k => rfl
  ·simp only [mailroomref04_atoms.l0]
   rw [if_pos (by omega), if_pos (by omega), hw]
   have hok : atomOk (wasDot s i) s[i] = ((bt s (i : Int) == 46 && !wasDot s i) || (!(bt s (i : Int) == 46) && atomByte s[i])) := by unfold atomOk; rw [hb46]
   by_cases hdot : bt s (i : Int) = 46
   ·have hi0 : i ≠ 0 := fun e => by subst e; exact hd hdot
    have hw2 : wrap64 ((i : Int) - 1) = ((i - 1 : Nat) : Int) := by rw [show (i : Int) - 1 = ((i - 1 : Nat) : Int) by omega]; exact wrap64_small _ (by omega) (by omega)
    rw [if_pos hdot, hw2, if_pos (by omega), if_pos (by omega), hok, hdot]
    unfold wasDot
    rw [if_neg hi0]
    by_cases hp : bt s ((i - 1 : Nat) : Int) = 46
    ·rw [if_pos hp, hp]; rfl
    ·rw [if_neg hp, beq_eq_false_iff_ne.2 hp]; rfl
   ·rw [if_neg hdot, hbt, sign_ev, hok, beq_eq_false_iff_ne.2 hdot]
    cases atomByte s[i] <;> rfl
 ·refine EvF.succ_some fun k => ?_
  simp only [mailroomref04_atoms.l0]
  rw [if_neg (by omega), List.drop_of_length_le (by rw [len_eq]; omega)]; rfl
theorem run_last (l : List UInt8) : ∀ m, l ≠ [] → (runS atomStep atomOk m l).1 = true → (runS atomStep atomOk m l).2 = (l.getLast? == some 46) := by
 induction l with
 | nil => intro m h; exact absurd rfl h
 | cons c r ih =>
  intro m _ h1
  simp only [runS] at h1 ⊢
  cases hok : atomOk m c with
  | false => rw [hok] at h1; simp at h1
  | true =>
   rw [hok] at h1
   simp only [if_true] at h1 ⊢
   cases r with
   | nil => simp [runS, atomStep]
   | cons d r' =>
    have := ih (atomStep m c) (by simp) h1
    rw [this]; simp
theorem atoms_ev (s : ByteArray) (hs : s.size ≤ 1000000) : EvF (fun k => mailroomref04_atoms.f k s) (atomsOk s.data.toList) := by
 have ht : EvF (fun k => mailroomref04_atoms.j0 k s true) false := EvF.succ_some fun k => by simp [mailroomref04_atoms.j0]
 by_cases h0 : s.size = 0
 ·have e : s.data.toList = [] := List.length_eq_zero_iff.1 (by rw [len_eq]; omega)
  rw [e]
  refine ht.congr fun k => ?_
  unfold mailroomref04_atoms.f
  rw [Lib.toList_data, e, if_pos rfl]
 ·have hne : ¬ s.data.toList = [] := fun e => by have := len_eq s; rw [e] at this; simp at this; omega
  have hw : wrap64 ((s.size : Int) - 1) = ((s.size - 1 : Nat) : Int) := by rw [show (s.size : Int) - 1 = ((s.size - 1 : Nat) : Int) by omega]; exact wrap64_small _ (by omega) (by omega)
  have hbt := bt_nat s 0 (by omega)
  by_cases hd : bt s 0 = 46
  ·have e : atomsOk s.data.toList = false := by
    unfold atomsOk
    have hd0 := drop_at s 0 (by omega)
    rw [List.drop_zero] at hd0
    rw [hd0]
    have hc : (s[0] == 46) = true := by rw [u8_beq s[0] 46]; rw [← hbt]; exact beq_iff_eq.2 hd
    simp only [runS]
    rw [show atomOk true s[0] = false from by unfold atomOk; rw [hc]; rfl]
    simp
   rw [e]
   refine ht.congr fun k => ?_
   unfold mailroomref04_atoms.f
   rw [Lib.toList_data, if_neg hne, if_pos (by omega), if_pos hd]
  ·have hl := atoms_l s hs (by omega) hd 0 (Nat.zero_le _)
   have hlb := last_bt s (by omega) 46
   have hrl := run_last s.data.toList true hne
   rw [List.drop_zero, show wasDot s 0 = true from rfl] at hl
   unfold atomsOk
   cases hb : (bt s ((s.size - 1 : Nat) : Int) == 46) with
   | true =>
    have e : ((runS atomStep atomOk true s.data.toList).1 && !(runS atomStep atomOk true s.data.toList).2) = false := by
     cases h1 : (runS atomStep atomOk true s.data.toList).1 with
     | false => rfl
     | true => rw [hrl h1, hlb, show ((46 : UInt8).toNat : Int) = 46 from rfl, hb]; rfl
    rw [e]
    refine ht.congr fun k => ?_
    unfold mailroomref04_atoms.f
    rw [Lib.toList_data, if_neg hne, if_pos (by omega), if_neg hd, hw, if_pos (by omega), if_pos (by omega), hb]
   | false =>
    have e : ((runS atomStep atomOk true s.data.toList).1 && !(runS atomStep atomOk true s.data.toList).2) = (runS atomStep atomOk true s.data.toList).1 := by
     cases h1 : (runS atomStep atomOk true s.data.toList).1 with
     | false => rfl
     | true => rw [hrl h1, hlb, show ((46 : UInt8).toNat : Int) = 46 from rfl, hb]; rfl
    rw [e]
    refine (EvF.succ (f := fun k => mailroomref04_atoms.j0 k s false) hl (fun k => ?_)).congr fun k => ?_
    ·simp [mailroomref04_atoms.j0]
    ·unfold mailroomref04_atoms.f
     rw [Lib.toList_data, if_neg hne, if_pos (by omega), if_neg hd, hw, if_pos (by omega), if_pos (by omega), hb]
end Go.Proofs.YtljkopbalejcgaaGreatDoor.P
end
section
namespace Go.Proofs.YtljkopbalejcgaaGreatDoor.P
open Go.RowKit Go.Proofs.YtljkopbalejcgaaGreatDoorW.PrintWords Go.Proofs.YtljkopbalejcgaaGreatDoorW.PrintLast Go.Proofs.YtljkopbalejcgaaGreatDoorW.PrintMore
attribute [local go_sem] max2_int min2_int max_two min_two max_three min_three max_four min_four
set_option linter.unusedVariables false
set_option linter.unusedSimpArgs false
open Go Go.Lib
def quoG (l : List UInt8) : Bool := (runS markStep markOk false l).1 && !(runS markStep markOk false l).2
def inR (c : UInt8) : Bool := decide (32 ≤ (c.toNat : Int)) && decide ((c.toNat : Int) ≤ 126)
theorem quoG_nil : quoG [] = true := rfl
theorem quoG_b1 : quoG [92] = false := by decide
theorem quoG_b (c : UInt8) (r : List UInt8) : quoG (92 :: c :: r) = (inR c && quoG r) := by
 unfold quoG
 simp only [runS]
 rw [if_pos (show markOk false 92 = true from by decide), show markStep false 92 = true from by decide]
 have h1 : markOk true c = inR c := by unfold markOk inR; simp
 have h2 : markStep true c = false := by unfold markStep; simp
 rw [h1, h2]
 cases inR c <;> simp
theorem quoG_c (c : UInt8) (r : List UInt8) (h : c ≠ 92) : quoG (c :: r) = (inR c && !(c == 34) && quoG r) := by
 unfold quoG
 simp only [runS]
 have h1 : markOk false c = (inR c && !(c == 34)) := by unfold markOk inR; simp
 have h2 : markStep false c = false := by unfold markStep; simp [h]
 rw [h1, h2]
 cases inR c && !(c == 34) <;> simp
def mailroomref04_quoted.f (a0 : ByteArray) : Option Bool := if a0.size ≤ 140737488351232 then some (quotedOk a0.data.toList) else none
set_option maxHeartbeats 2000000 in
set_option maxRecDepth 100000 in
theorem refq_in (s inn : ByteArray) (w : World) (h2 : 2 ≤ s.size) (hs : s.size ≤ 140737488351232) (h0 : s[0] = 34) (h1 : s[s.size - 1] = 34) (hin : s.extract 1 (s.size - 1) = inn) (rr : Bool) (HR : Hid (rr = quoG inn.data.toList)) :
  Calls Tryz.prog 81 #[.string s] w fun e w' => e = .returned (.bool rr) ∧ w' = w := by
 have e1 : decide ((s.size : Int) < 2) = false := decide_eq_false (by omega)
 have e2 : wrap64 ((s.size : Int) - 1) = ((s.size - 1 : Nat) : Int) := by rw [show (s.size : Int) - 1 = ((s.size - 1 : Nat) : Int) by omega]; unfold wrap64; omega
 have e3 : (s[0].toNat : Int) = 34 := by rw [h0]; rfl
 have e4 : (s[s.size - 1].toNat : Int) = 34 := by rw [h1]; rfl
 have hlt : s.size - 1 < s.size := by omega
 have hA : (1 : Int) ≤ (s.size : Int) - 1 := by omega
 have hB : (s.size : Int) - 1 ≤ (s.size : Int) := by omega
 clear h0 h1
 go_enter Tryz.func81, Tryz.ntmps81
 go_wp2
 have hsz : inn.size ≤ s.size := by rw [← hin, ByteArray.size_extract]; omega
 clear hin e1 e2 e3 e4 hlt
 have HL : Aside0 (inn.data.toList.length = inn.size) := ⟨len_eq inn⟩
 go_loopg [4] inn.size (fun gk i wr => ∃ k : Nat, k ≤ inn.size ∧ inn.size - k ≤ gk ∧ i = .int .i64 k ∧ Aside0 (rr = quoG (inn.data.toList.drop k)) ∧ wr = w)
 case atStart => exact ⟨0, by omega, by omega, rfl, ⟨HR⟩, rfl⟩
 case round =>
  clear HR
  obtain ⟨k, hk, hg, rfl, HR, rfl⟩ := hrel
  by_cases hlt : k < inn.size
  ·have hltz : (k : Int) < (inn.size : Int) := by omega
   have HD : Aside0 (inn.data.toList.drop k = inn[k] :: inn.data.toList.drop (k + 1)) := ⟨by rw [List.drop_eq_getElem_cons (by rw [len_eq]; exact hlt)]; rfl⟩
   by_cases hb : inn[k] = 92
   ·have hbz : ((inn[k].toNat : Int) == 92) = true := by rw [hb]; rfl
    by_cases hlt2 : k + 1 < inn.size
    ·have hltz2 : ((k : Int) + 1) < (inn.size : Int) := by omega
     have HD2 : Aside0 (inn.data.toList.drop (k + 1) = inn[k + 1] :: inn.data.toList.drop (k + 2)) := ⟨by rw [List.drop_eq_getElem_cons (by rw [len_eq]; exact hlt2)]; rfl⟩
     have HQ : Aside0 (rr = (inR inn[k + 1] && quoG (inn.data.toList.drop (k + 2)))) := ⟨by rw [HR.out, HD.out, HD2.out, hb, quoG_b]⟩
     clear hb HR
     have hc2 : ((inn[k + 1].toNat : Int) < 32) ∨ (32 ≤ (inn[k + 1].toNat : Int) ∧ 126 < (inn[k + 1].toNat : Int)) ∨ (32 ≤ (inn[k + 1].toNat : Int) ∧ (inn[k + 1].toNat : Int) ≤ 126) := by omega
     have HI : Aside0 (inR inn[k + 1] = (decide (32 ≤ (inn[k + 1].toNat : Int)) && decide ((inn[k + 1].toNat : Int) ≤ 126))) := ⟨rfl⟩
     rcases hc2 with h3 | ⟨h3, h4⟩ | ⟨h3, h4⟩
     ·have HT : Aside0 (rr = false) := ⟨by rw [HQ.out, HI.out, decide_eq_false (show ¬ 32 ≤ (inn[k + 1].toNat : Int) by omega)]; rfl⟩
      go_wp2
      go_ret
      exact ⟨by rw [HT.out]; rfl, rfl⟩
     ·have HT : Aside0 (rr = false) := ⟨by rw [HQ.out, HI.out, decide_eq_false (show ¬ (inn[k + 1].toNat : Int) ≤ 126 by omega), Bool.and_false]; rfl⟩
      go_wp2
      go_ret
      exact ⟨by rw [HT.out]; rfl, rfl⟩
     ·have HT : Aside0 (rr = quoG (inn.data.toList.drop (k + 2))) := ⟨by rw [HQ.out, HI.out, decide_eq_true h3, decide_eq_true h4]; rfl⟩
      go_wp2
      go_roundg (inn.size - (k + 2))
      case measure => omega
      case rel => exact ⟨k + 2, by omega, by omega, by go_num, HT, rfl⟩
    ·have hltz2 : ¬ ((k : Int) + 1) < (inn.size : Int) := by omega
     have HT : Aside0 (rr = false) := ⟨by rw [HR.out, HD.out, hb, List.drop_of_length_le (by rw [len_eq]; omega), quoG_b1]⟩
     clear hb HR
     go_wp2
     go_ret
     exact ⟨by rw [HT.out]; rfl, rfl⟩
   ·have hbz : ((inn[k].toNat : Int) == 92) = false := by
     rw [beq_eq_false_iff_ne]; intro h; exact hb (UInt8.toNat_inj.mp (by rw [show (92 : UInt8).toNat = 92 from rfl]; omega))
    have HQ : Aside0 (rr = (inR inn[k] && !(inn[k] == 34) && quoG (inn.data.toList.drop (k + 1)))) := ⟨by rw [HR.out, HD.out, quoG_c _ _ hb]⟩
    have HI : Aside0 (inR inn[k] = (decide (32 ≤ (inn[k].toNat : Int)) && decide ((inn[k].toNat : Int) ≤ 126))) := ⟨rfl⟩
    have HE : Aside0 ((inn[k] == 34) = ((inn[k].toNat : Int) == 34)) := ⟨u8_beq inn[k] 34⟩
    clear hb HR
    cases h34 : ((inn[k].toNat : Int) == 34) with
    | true =>
     have HT : Aside0 (rr = false) := ⟨by rw [HQ.out, HE.out, h34]; simp⟩
     go_wp2
     go_ret
     exact ⟨by rw [HT.out]; rfl, rfl⟩
    | false =>
     have hc2 : ((inn[k].toNat : Int) < 32) ∨ (32 ≤ (inn[k].toNat : Int) ∧ 126 < (inn[k].toNat : Int)) ∨ (32 ≤ (inn[k].toNat : Int) ∧ (inn[k].toNat : Int) ≤ 126) := by omega
     rcases hc2 with h3 | ⟨h3, h4⟩ | ⟨h3, h4⟩
     ·have HT : Aside0 (rr = false) := ⟨by rw [HQ.out, HI.out, decide_eq_false (show ¬ 32 ≤ (inn[k].toNat : Int) by omega)]; rfl⟩
      go_wp2
      go_ret
      exact ⟨by rw [HT.out]; rfl, rfl⟩
     ·have HT : Aside0 (rr = false) := ⟨by rw [HQ.out, HI.out, decide_eq_false (show ¬ (inn[k].toNat : Int) ≤ 126 by omega), Bool.and_false]; rfl⟩
      go_wp2
      go_ret
      exact ⟨by rw [HT.out]; rfl, rfl⟩
     ·have HT : Aside0 (rr = quoG (inn.data.toList.drop (k + 1))) := ⟨by rw [HQ.out, HI.out, HE.out, h34, decide_eq_true h3, decide_eq_true h4]; rfl⟩
      go_wp2
      go_roundg (inn.size - (k + 1))
      case measure => omega
      case rel => exact ⟨k + 1, by omega, by omega, by go_num, HT, rfl⟩
  ·have hltz : ¬ (k : Int) < (inn.size : Int) := by omega
   have HT : Aside0 (rr = true) := ⟨by rw [HR.out, List.drop_of_length_le (by rw [len_eq]; omega), quoG_nil]⟩
   go_wp2
   go_ret
   exact ⟨by rw [HT.out]; rfl, rfl⟩
theorem quotedOk_mid (m : List UInt8) : quotedOk (34 :: (m ++ [34])) = quoG m := by
 have h1 : Lib.hasPrefix (34 :: (m ++ [34])) [34] = true := by simp [Lib.hasPrefix, List.isPrefixOf]
 have h2 : Lib.trimPrefix (34 :: (m ++ [34])) [34] = m ++ [34] := by unfold Lib.trimPrefix; rw [h1]; rfl
 have h3 : Lib.hasSuffix (m ++ [34]) [34] = true := by simp [Lib.hasSuffix, List.isSuffixOf, List.isPrefixOf]
 have h4 : quotedIn (34 :: (m ++ [34])) = m := by unfold quotedIn; rw [h2]; unfold Lib.trimSuffix; rw [h3]; simp
 unfold quotedOk quoG
 rw [h4, h1, h2, h3]; simp
theorem quotedOk_form (l : List UInt8) (h : quotedOk l = true) : ∃ m, l = 34 :: (m ++ [34]) := by
 unfold quotedOk at h
 simp only [Bool.and_eq_true] at h
 obtain ⟨⟨⟨h1, h2⟩, -⟩, -⟩ := h
 cases l with
 | nil => simp [Lib.hasPrefix, List.isPrefixOf] at h1
 | cons c r =>
  have hc : (34 : UInt8) = c := by simpa [Lib.hasPrefix, List.isPrefixOf] using h1
  subst hc
  have h3 : Lib.trimPrefix (34 :: r) [34] = r := by unfold Lib.trimPrefix; rw [h1]; rfl
  rw [h3] at h2
  obtain ⟨m, hm⟩ : ∃ m, m ++ [34] = r := by
   have := List.isSuffixOf_iff_suffix.1 h2
   exact this
  exact ⟨m, by rw [hm]⟩
theorem quo_split (s : ByteArray) (h2 : 2 ≤ s.size) (h0 : s[0] = 34) (h1 : s[s.size - 1] = 34) : s.data.toList = 34 :: ((s.extract 1 (s.size - 1)).data.toList ++ [34]) := by
 have hl : s.data.toList.length = s.size := len_eq s
 have he : (s.extract 1 (s.size - 1)).data.toList = (s.data.toList.drop 1).take (s.size - 1 - 1) := by
  have := Lib.extract_toList s 1 (s.size - 1)
  rw [Lib.toList_data] at this; exact this
 rw [he]
 apply List.ext_getElem
 ·simp [hl]; omega
 ·intro j hj hj'
  cases j with
  | zero => simp only [List.getElem_cons_zero]; exact h0
  | succ j =>
   simp only [List.getElem_cons_succ]
   rw [List.getElem_append]
   split
   ·rename_i h
    rw [List.getElem_take, List.getElem_drop]
    congr 1; omega
   ·rename_i h
    simp only [List.length_take, List.length_drop, hl] at h
    have e : j + 1 = s.size - 1 := by omega
    simp only [e, List.getElem_singleton]
    exact h1
set_option maxHeartbeats 2000000 in
set_option maxRecDepth 100000 in
theorem refq_no (s : ByteArray) (w : World) (hs : s.size ≤ 140737488351232) (h : s.size < 2 ∨ ∃ h : 2 ≤ s.size, s[0] ≠ 34 ∨ (s[0] = 34 ∧ s[s.size - 1] ≠ 34)) :
  Calls Tryz.prog 81 #[.string s] w fun e w' => e = .returned (.bool false) ∧ w' = w := by
 rcases h with h | ⟨h2, h | ⟨h, h'⟩⟩
 ·have e1 : decide ((s.size : Int) < 2) = true := decide_eq_true (by omega)
  go_enter Tryz.func81, Tryz.ntmps81
  go_wp2
  go_ret
  exact ⟨rfl, rfl⟩
 ·have e1 : decide ((s.size : Int) < 2) = false := decide_eq_false (by omega)
  have e3 : ((s[0].toNat : Int) == 34) = false := by rw [beq_eq_false_iff_ne]; intro e; exact h (UInt8.toNat_inj.mp (by rw [show (34 : UInt8).toNat = 34 from rfl]; omega))
  have hlt : s.size - 1 < s.size := by omega
  clear h
  go_enter Tryz.func81, Tryz.ntmps81
  go_wp2
  go_ret
  exact ⟨rfl, rfl⟩
 ·have e1 : decide ((s.size : Int) < 2) = false := decide_eq_false (by omega)
  have e2 : wrap64 ((s.size : Int) - 1) = ((s.size - 1 : Nat) : Int) := by rw [show (s.size : Int) - 1 = ((s.size - 1 : Nat) : Int) by omega]; unfold wrap64; omega
  have e3 : (s[0].toNat : Int) = 34 := by rw [h]; rfl
  have e4 : ((s[s.size - 1].toNat : Int) == 34) = false := by rw [beq_eq_false_iff_ne]; intro e; exact h' (UInt8.toNat_inj.mp (by rw [show (34 : UInt8).toNat = 34 from rfl]; omega))
  have hlt : s.size - 1 < s.size := by omega
  clear h h'
  go_enter Tryz.func81, Tryz.ntmps81
  go_wp2
  go_ret
  exact ⟨rfl, rfl⟩
theorem mailroomref04_quoted.calls (a0 : ByteArray) (r : Bool) (w : World) (h : mailroomref04_quoted.f a0 = some r) :
  Calls Tryz.prog 81 #[.string a0] w fun e w' => e = .returned (.bool r) ∧ w' = w := by
 unfold mailroomref04_quoted.f at h
 split at h
 ·rename_i hs
  obtain rfl := Option.some.inj h
  by_cases hno : a0.size < 2 ∨ ∃ h : 2 ≤ a0.size, a0[0] ≠ 34 ∨ (a0[0] = 34 ∧ a0[a0.size - 1] ≠ 34)
  ·have e : quotedOk a0.data.toList = false := by
    cases hq : quotedOk a0.data.toList with
    | false => rfl
    | true =>
     exfalso
     obtain ⟨m, hm⟩ := quotedOk_form _ hq
     have hl : a0.size = m.length + 2 := by rw [← len_eq, hm]; simp
     have h0 : a0[0]'(by omega) = 34 := by
      have : a0.data.toList[0]'(by rw [len_eq]; omega) = 34 := by simp only [hm, List.getElem_cons_zero]
      exact this
     have h1 : a0[a0.size - 1]'(by omega) = 34 := by
      have : a0.data.toList[a0.size - 1]'(by rw [len_eq]; omega) = 34 := by
       simp only [hm, show a0.size - 1 = m.length + 1 by omega, List.getElem_cons_succ]
       simp
      exact this
     rcases hno with h | ⟨_, h | ⟨_, h⟩⟩
     ·omega
     ·exact h h0
     ·exact h h1
   rw [e]; exact refq_no a0 w hs hno
  ·have h2 : 2 ≤ a0.size := by omega
   have h0 : a0[0] = 34 := Classical.byContradiction fun h => hno (.inr ⟨h2, .inl h⟩)
   have h1 : a0[a0.size - 1] = 34 := Classical.byContradiction fun h => hno (.inr ⟨h2, .inr ⟨h0, h⟩⟩)
   refine refq_in a0 _ w h2 hs h0 h1 rfl _ ?_
   show quotedOk a0.data.toList = _
   rw [quo_split a0 h2 h0 h1, quotedOk_mid]
 ·simp at h
end Go.Proofs.YtljkopbalejcgaaGreatDoor.P
end
section
namespace Go.Proofs.YtljkopbalejcgaaGreatDoor.P
open Go.RowKit Go.Proofs.YtljkopbalejcgaaGreatDoorW.PrintWords Go.Proofs.YtljkopbalejcgaaGreatDoorW.PrintLast Go.Proofs.YtljkopbalejcgaaGreatDoorW.PrintMore
attribute [local go_sem] max2_int min2_int max_two min_two max_three min_three max_four min_four
set_option linter.unusedVariables false
set_option linter.unusedSimpArgs false
mutual
def mailroomref04_Parse.j1 : Nat → ByteArray → Int → Option (ByteArray × ByteArray × Int)
 | 0, _, _ => none
 | k + 1, x0, x5 => if x5 < 1 then (mailroomref04_Parse.j2 k x0 x5 true) else (if x5 > 64 then (mailroomref04_Parse.j2 k x0 x5 true) else (if 0 ≤ (wrap64 ((x0.size : Int) - 1)) then (if (wrap64 ((x0.size : Int) - 1)) < (x0.size : Int) then (if (bt x0 (wrap64 ((x0.size : Int) - 1))) = 46 then (mailroomref04_Parse.j2 k x0 x5 true) else (if 0 ≤ x5 then (if x5 ≤ (x0.size : Int) then ((mailroomref04_atoms.f k (x0.extract 0 (x5 : Int).toNat)).bind fun t216 => (if t216 = true then (mailroomref04_Parse.j2 k x0 x5 false) else ((mailroomref04_quoted.f (x0.extract 0 (x5 : Int).toNat)).bind fun t217 => (mailroomref04_Parse.j2 k x0 x5 (!t217))))) else (none)) else (none))) else (none)) else (none)))
def mailroomref04_Parse.j2 : Nat → ByteArray → Int → Bool → Option (ByteArray × ByteArray × Int)
 | 0, _, _, _ => none
 | k + 1, x0, x5, x48 => if x48 = true then (some ((⟨#[]⟩ : ByteArray), (⟨#[]⟩ : ByteArray), 4)) else (if 0 ≤ (wrap64 (x5 + 1)) then (if (wrap64 (x5 + 1)) ≤ (x0.size : Int) then ((mailroomref03_Fold.f k (x0.extract ((wrap64 (x5 + 1)) : Int).toNat x0.size)).bind fun bt218 => (if bt218.2 = 0 then (if 0 ≤ x5 then (if x5 ≤ (x0.size : Int) then (some (x0.extract 0 (x5 : Int).toNat, bt218.1, 0)) else (none)) else (none)) else (some ((⟨#[]⟩ : ByteArray), (⟨#[]⟩ : ByteArray), 4)))) else (none)) else (none))
def mailroomref04_Parse.l0 : Nat → ByteArray → Int → Option (ByteArray × ByteArray × Int)
 | 0, _, _ => none
 | k + 1, x0, x5 => if x5 ≥ 0 then (if 0 ≤ x5 then (if x5 < (x0.size : Int) then (if (bt x0 x5) = 64 then (mailroomref04_Parse.j1 k x0 x5) else (mailroomref04_Parse.l0 k x0 (wrap64 (x5 - 1)))) else (none)) else (none)) else (mailroomref04_Parse.j1 k x0 x5)
end
def mailroomref04_Parse.f (k : Nat) (a0 : ByteArray) : Option (ByteArray × ByteArray × Int) := mailroomref04_Parse.l0 k a0 (wrap64 ((a0.size : Int) - 1))
theorem mailroomref04_Parse.mono_l : ∀ k, (∀ y0 y1, LeO (mailroomref04_Parse.j1 k y0 y1) (mailroomref04_Parse.j1 (k + 1) y0 y1)) ∧ (∀ y0 y1 y2, LeO (mailroomref04_Parse.j2 k y0 y1 y2) (mailroomref04_Parse.j2 (k + 1) y0 y1 y2)) ∧ (∀ y0 y1, LeO (mailroomref04_Parse.l0 k y0 y1) (mailroomref04_Parse.l0 (k + 1) y0 y1))
 | 0 => ⟨fun _ _ r h => by simp [mailroomref04_Parse.j1] at h, fun _ _ _ r h => by simp [mailroomref04_Parse.j2] at h, fun _ _ r h => by simp [mailroomref04_Parse.l0] at h⟩
 | k + 1 => by
  obtain ⟨ih0, ih1, ih2⟩ := mailroomref04_Parse.mono_l k
  refine ⟨?_, ?_, ?_⟩
  ·intro y0 y1
   unfold mailroomref04_Parse.j1
   repeat' first
   | (with_reducible exact ih0 _ _)
   | (with_reducible exact ih1 _ _ _)
   | (with_reducible exact ih2 _ _)
   | (with_reducible exact mailroomref03_Fold.mono _ _)
   | (with_reducible exact mailroomref04_atoms.mono _ _)
   | (with_reducible exact LeO.refl _)
   | (with_reducible exact LeO.none _)
   | (with_reducible refine LeO.ite ?_ ?_)
   | (with_reducible refine LeO.bind ?_ (fun _ => ?_))
   | exact ih0 _ _
   | exact ih1 _ _ _
   | exact ih2 _ _
   | exact mailroomref03_Fold.mono _ _
   | exact mailroomref04_atoms.mono _ _
   | exact LeO.none _
   | refine LeO.ite ?_ ?_
   | refine LeO.bind ?_ (fun _ => ?_)
  ·intro y0 y1 y2
   unfold mailroomref04_Parse.j2
   repeat' first
   | (with_reducible exact ih0 _ _)
   | (with_reducible exact ih1 _ _ _)
   | (with_reducible exact ih2 _ _)
   | (with_reducible exact mailroomref03_Fold.mono _ _)
   | (with_reducible exact mailroomref04_atoms.mono _ _)
   | (with_reducible exact LeO.refl _)
   | (with_reducible exact LeO.none _)
   | (with_reducible refine LeO.ite ?_ ?_)
   | (with_reducible refine LeO.bind ?_ (fun _ => ?_))
   | exact ih0 _ _
   | exact ih1 _ _ _
   | exact ih2 _ _
   | exact mailroomref03_Fold.mono _ _
   | exact mailroomref04_atoms.mono _ _
   | exact LeO.none _
   | refine LeO.ite ?_ ?_
   | refine LeO.bind ?_ (fun _ => ?_)
  ·intro y0 y1
   unfold mailroomref04_Parse.l0
   repeat' first
   | (with_reducible exact ih0 _ _)
   | (with_reducible exact ih1 _ _ _)
   | (with_reducible exact ih2 _ _)
   | (with_reducible exact mailroomref03_Fold.mono _ _)
   | (with_reducible exact mailroomref04_atoms.mono _ _)
   | (with_reducible exact LeO.refl _)
   | (with_reducible exact LeO.none _)
   | (with_reducible refine LeO.ite ?_ ?_)
   | (with_reducible refine LeO.bind ?_ (fun _ => ?_))
   | exact ih0 _ _
   | exact ih1 _ _ _
   | exact ih2 _ _
   | exact mailroomref03_Fold.mono _ _
   | exact mailroomref04_atoms.mono _ _
   | exact LeO.none _
   | refine LeO.ite ?_ ?_
   | refine LeO.bind ?_ (fun _ => ?_)
theorem mailroomref04_Parse.mono : ∀ a0 k, LeO (mailroomref04_Parse.f k a0) (mailroomref04_Parse.f (k + 1) a0) := by
 intro a0 k
 obtain ⟨ih0, ih1, ih2⟩ := mailroomref04_Parse.mono_l k
 unfold mailroomref04_Parse.f
 repeat' first
   | (with_reducible exact ih0 _ _)
   | (with_reducible exact ih1 _ _ _)
   | (with_reducible exact ih2 _ _)
   | (with_reducible exact mailroomref03_Fold.mono _ _)
   | (with_reducible exact mailroomref04_atoms.mono _ _)
   | (with_reducible exact LeO.refl _)
   | (with_reducible exact LeO.none _)
   | (with_reducible refine LeO.ite ?_ ?_)
   | (with_reducible refine LeO.bind ?_ (fun _ => ?_))
   | exact ih0 _ _
   | exact ih1 _ _ _
   | exact ih2 _ _
   | exact mailroomref03_Fold.mono _ _
   | exact mailroomref04_atoms.mono _ _
   | exact LeO.none _
   | refine LeO.ite ?_ ?_
   | refine LeO.bind ?_ (fun _ => ?_)
set_option maxHeartbeats 8000000 in
set_option maxRecDepth 100000 in
theorem mailroomref04_Parse.calls (k : Nat) (a0 : ByteArray) (r1 : ByteArray) (r2 : ByteArray) (r3 : Int) (w : World) (h : mailroomref04_Parse.f k a0 = some (r1, r2, r3)) :
  Calls Tryz.prog 62 #[.string a0] w fun e w' => e = .returned (.tuple #[.string r1, .string r2, .int .i64 r3]) ∧ Below w.heap.size w w' := by
 have HB := Aside0.mk (Below.refl w.heap.size w)
 have H : (mailroomref04_Parse.l0 k a0 (wrap64 ((a0.size : Int) - 1))) = some (r1, r2, r3) := h
 clear h
 have HC2 := Aside0.mk H
 clear H
 go_enter Tryz.func62, Tryz.ntmps62
 go_upto_block 0 with (fail)
 go_cut [5] (fun v5 wc => ∃ (kq : Nat) (x5_1 : Int), v5 = .int .i64 x5_1 ∧ Aside0 (mailroomref04_Parse.j1 kq a0 x5_1 = some (r1, r2, r3)) ∧ Aside0 (kq ≤ k) ∧ Aside0 (Below w.heap.size w wc))
 case first =>
  have H := HC2.out
  clear HC2
  have H' := Aside0.mk H
  clear H
  go_wp2
  go_loopg [5] k (fun kq v5 w' => ∃ (x5_1 : Int), v5 = .int .i64 x5_1 ∧ Aside0 (mailroomref04_Parse.l0 kq a0 x5_1 = some (r1, r2, r3)) ∧ Aside0 (kq ≤ k) ∧ Aside0 (Below w.heap.size w w'))
  case atStart => exact ⟨(wrap64 ((a0.size : Int) - 1)), (by first | rfl | (simp; done) | (simp [*]; done)), H', ⟨Nat.le_refl _⟩, ⟨by repeat (first | (with_reducible first | exact HB.out | apply below_alloc | apply pw_below_drewN | apply below_drew1) | exact HB.out)⟩⟩
  case round =>
   clear H'
   try clear p2
   obtain ⟨x5_1, rfl, HA, HK1, HB⟩ := hrel
   cases gk with
   | zero => exact absurd HA.out (by simp [mailroomref04_Parse.l0])
   | succ k1 =>
    have H := HA.out
    clear HA
    simp only [mailroomref04_Parse.l0] at H
    by_cases c3 : x5_1 ≥ 0
    ·rw [if_pos c3] at H
     have c3b0 : decide (0 ≤ x5_1) = true := decide_eq_true c3
     clear c3
     (first | rw [c3b0] | (simp only [i64_w, i32_w]; rw [c3b0]) | skip)
     by_cases c4 : 0 ≤ x5_1
     ·rw [if_pos c4] at H
      have c4b0 : decide (0 ≤ x5_1) = true := decide_eq_true c4
      clear c4
      by_cases c5 : x5_1 < (a0.size : Int)
      ·rw [if_pos c5] at H
       have c5b0 : decide (x5_1 < (a0.size : Int)) = true := decide_eq_true c5
       clear c5
       by_cases c7 : (bt a0 x5_1) = 64
       ·rw [if_pos c7] at H
        have c7b0 : ((bt a0 x5_1) == 64) = true := beq_iff_eq.mpr c7
        have c7b1 : ((bt a0 x5_1) != 64) = false := bne_eq_false_iff_eq.mpr c7
        clear c7
        have H' := Aside0.mk H
        clear H
        have p6 : 0 ≤ (x5_1 : Int) := of_decide_eq_true (by first | (with_reducible assumption) | assumption)
        have q6 : x5_1 < (a0.size : Int) := of_decide_eq_true (by first | (with_reducible assumption) | assumption)
        have hx6 := bt_at a0 x5_1
        replace p6 := eq_true p6
        replace q6 := eq_true q6
        go_wp2
        go_meet
        case rel => exact ⟨_, (x5_1), (by first | rfl | (simp; done) | (simp [*]; done)), H', ⟨by have := HK1.out; first | omega | exact Nat.le_refl _⟩, ⟨by repeat (first | (with_reducible first | exact HB.out | apply below_alloc | apply pw_below_drewN | apply below_drew1) | exact HB.out)⟩⟩
       ·rw [if_neg c7] at H
        have c7b0 : ((bt a0 x5_1) == 64) = false := beq_eq_false_iff_ne.mpr c7
        have c7b1 : ((bt a0 x5_1) != 64) = true := bne_iff_ne.mpr c7
        have H' := Aside0.mk H
        clear H
        have p6 : 0 ≤ (x5_1 : Int) := of_decide_eq_true (by first | (with_reducible assumption) | assumption)
        have q6 : x5_1 < (a0.size : Int) := of_decide_eq_true (by first | (with_reducible assumption) | assumption)
        have hx6 := bt_at a0 x5_1
        replace p6 := eq_true p6
        replace q6 := eq_true q6
        go_wp2
        go_roundg k1
        case measure => have := HK1.out; omega
        case rel => exact ⟨(wrap64 (x5_1 - 1)), (by first | rfl | (simp; done) | (simp [*]; done)), H', ⟨by have := HK1.out; omega⟩, ⟨by repeat (first | (with_reducible first | exact HB.out | apply below_alloc | apply pw_below_drewN | apply below_drew1) | exact HB.out)⟩⟩
      ·rw [if_neg c5] at H
       exact absurd H (by simp)
     ·rw [if_neg c4] at H
      exact absurd H (by simp)
    ·rw [if_neg c3] at H
     have c3b0 : decide (0 ≤ x5_1) = false := decide_eq_false c3
     clear c3
     (first | rw [c3b0] | (simp only [i64_w, i32_w]; rw [c3b0]) | skip)
     have H' := Aside0.mk H
     clear H
     go_wp2
     go_meet
     case rel => exact ⟨_, (x5_1), (by first | rfl | (simp; done) | (simp [*]; done)), H', ⟨by have := HK1.out; first | omega | exact Nat.le_refl _⟩, ⟨by repeat (first | (with_reducible first | exact HB.out | apply below_alloc | apply pw_below_drewN | apply below_drew1) | exact HB.out)⟩⟩
 case rest =>
  clear HC2
  try clear p2
  try clear c3
  try clear c3b0
  try clear c4
  try clear c4b0
  try clear c5
  try clear c5b0
  try clear c6
  try clear p6
  try clear q6
  try clear hx6
  try clear c7
  try clear c7b0
  try clear c7b1
  try clear p2
  try clear p6
  try clear q6
  obtain ⟨kq, x5_1, rfl, HA, HJ1, HB⟩ := hcut
  cases kq with
  | zero => exact absurd HA.out (by simp [mailroomref04_Parse.j1])
  | succ kj1 =>
   have H := HA.out
   clear HA
   simp only [mailroomref04_Parse.j1] at H
   have HC8 := Aside0.mk H
   clear H
   go_upto_region 4 with (fail)
   go_cut [48] (fun v48 wc => ∃ (kq : Nat) (x48_7 : Bool), v48 = .bool x48_7 ∧ Aside0 (mailroomref04_Parse.j2 kq a0 x5_1 x48_7 = some (r1, r2, r3)) ∧ Aside0 (kq ≤ kj1) ∧ Aside0 (Below w.heap.size w wc))
   case first =>
    have H := HC8.out
    clear HC8
    by_cases c9 : x5_1 < 1
    ·rw [if_pos c9] at H
     have c9b0 : decide (x5_1 < 1) = true := decide_eq_true c9
     clear c9
     (first | rw [c9b0] | (simp only [i64_w, i32_w]; rw [c9b0]) | skip)
     have H' := Aside0.mk H
     clear H
     go_wp2
     go_meet
     case rel => exact ⟨_, (true), (by first | rfl | (simp; done) | (simp [*]; done)), H', ⟨by have := HJ1.out; first | omega | exact Nat.le_refl _⟩, ⟨by repeat (first | (with_reducible first | exact HB.out | apply below_alloc | apply pw_below_drewN | apply below_drew1) | exact HB.out)⟩⟩
    ·rw [if_neg c9] at H
     have c9b0 : decide (x5_1 < 1) = false := decide_eq_false c9
     clear c9
     (first | rw [c9b0] | (simp only [i64_w, i32_w]; rw [c9b0]) | skip)
     by_cases c10 : x5_1 > 64
     ·rw [if_pos c10] at H
      have c10b0 : decide (64 < x5_1) = true := decide_eq_true c10
      clear c10
      have H' := Aside0.mk H
      clear H
      go_wp2
      go_meet
      case rel => exact ⟨_, (true), (by first | rfl | (simp; done) | (simp [*]; done)), H', ⟨by have := HJ1.out; first | omega | exact Nat.le_refl _⟩, ⟨by repeat (first | (with_reducible first | exact HB.out | apply below_alloc | apply pw_below_drewN | apply below_drew1) | exact HB.out)⟩⟩
     ·rw [if_neg c10] at H
      have c10b0 : decide (64 < x5_1) = false := decide_eq_false c10
      clear c10
      obtain ⟨ji11, hji11⟩ : ∃ j_ : Int, (wrap64 ((a0.size : Int) - 1)) = j_ := ⟨_, rfl⟩
      replace H : (if 0 ≤ (ji11) then (if (ji11) < (a0.size : Int) then (if (bt a0 (ji11)) = 46 then (mailroomref04_Parse.j2 kj1 a0 x5_1 true) else (if 0 ≤ x5_1 then (if x5_1 ≤ (a0.size : Int) then ((mailroomref04_atoms.f kj1 (a0.extract 0 (x5_1 : Int).toNat)).bind fun t216 => (if t216 = true then (mailroomref04_Parse.j2 kj1 a0 x5_1 false) else ((mailroomref04_quoted.f (a0.extract 0 (x5_1 : Int).toNat)).bind fun t217 => (mailroomref04_Parse.j2 kj1 a0 x5_1 (!t217))))) else (none)) else (none))) else (none)) else (none)) = some (r1, r2, r3) := by first | (rw [hji11] at H; exact H) | (simp only [hji11] at H ⊢; exact H)
      have hji11w : (IntKind.i64.wrap ((a0.size : Int) - 1)) = ji11 := (i64_w _).trans hji11
      by_cases c12 : 0 ≤ (ji11)
      ·rw [if_pos c12] at H
       have c12b0 : decide (0 ≤ (ji11)) = true := decide_eq_true c12
       clear c12
       by_cases c13 : (ji11) < (a0.size : Int)
       ·rw [if_pos c13] at H
        have c13b0 : decide ((ji11) < (a0.size : Int)) = true := decide_eq_true c13
        clear c13
        by_cases c15 : (bt a0 (ji11)) = 46
        ·rw [if_pos c15] at H
         have c15b0 : ((bt a0 (ji11)) == 46) = true := beq_iff_eq.mpr c15
         have c15b1 : ((bt a0 (ji11)) != 46) = false := bne_eq_false_iff_eq.mpr c15
         clear c15
         have H' := Aside0.mk H
         clear H
         have p14 : 0 ≤ ((ji11) : Int) := of_decide_eq_true (by first | (with_reducible assumption) | assumption)
         have q14 : (ji11) < (a0.size : Int) := of_decide_eq_true (by first | (with_reducible assumption) | assumption)
         have hx14 := bt_at a0 (ji11)
         replace p14 := eq_true p14
         replace q14 := eq_true q14
         go_wp2
         go_meet
         case rel => exact ⟨_, (true), (by first | rfl | (simp; done) | (simp [*]; done)), H', ⟨by have := HJ1.out; first | omega | exact Nat.le_refl _⟩, ⟨by repeat (first | (with_reducible first | exact HB.out | apply below_alloc | apply pw_below_drewN | apply below_drew1) | exact HB.out)⟩⟩
        ·rw [if_neg c15] at H
         have c15b0 : ((bt a0 (ji11)) == 46) = false := beq_eq_false_iff_ne.mpr c15
         have c15b1 : ((bt a0 (ji11)) != 46) = true := bne_iff_ne.mpr c15
         by_cases c16 : 0 ≤ x5_1
         ·rw [if_pos c16] at H
          have c16b0 := eq_true c16
          have c16b1 : decide (0 ≤ x5_1) = true := decide_eq_true c16
          clear c16
          by_cases c17 : x5_1 ≤ (a0.size : Int)
          ·rw [if_pos c17] at H
           have c17b0 := eq_true c17
           have c17b1 : decide (x5_1 ≤ (a0.size : Int)) = true := decide_eq_true c17
           clear c17
           replace H := Option.bind_eq_some_iff.mp H
           obtain ⟨t216, A180, H⟩ := H
           replace H : (if t216 = true then (mailroomref04_Parse.j2 kj1 a0 x5_1 false) else ((mailroomref04_quoted.f (a0.extract 0 (x5_1 : Int).toNat)).bind fun t217 => (mailroomref04_Parse.j2 kj1 a0 x5_1 (!t217)))) = some (r1, r2, r3) := H
           have A18 := Aside0.mk A180
           clear A180
           by_cases c19 : t216 = true
           ·subst c19
            have H1 : (mailroomref04_Parse.j2 kj1 a0 x5_1 false) = some (r1, r2, r3) := by rw [if_pos rfl] at H; exact H
            clear H
            have H := H1
            clear H1
            have H' := Aside0.mk H
            clear H
            have p14 : 0 ≤ ((ji11) : Int) := of_decide_eq_true (by first | (with_reducible assumption) | assumption)
            have q14 : (ji11) < (a0.size : Int) := of_decide_eq_true (by first | (with_reducible assumption) | assumption)
            have hx14 := bt_at a0 (ji11)
            replace p14 := eq_true p14
            replace q14 := eq_true q14
            go_wp2_with (first | (go_at_call 80; (with_reducible refine (mailroomref04_atoms.calls kj1 (a0.extract 0 (x5_1 : Int).toNat) true _ A18.out).mono ?_); rintro e w' ⟨rfl, ⟨nd, rfl⟩⟩))
            go_meet
            case rel => exact ⟨_, (false), (by first | rfl | (simp; done) | (simp [*]; done)), H', ⟨by have := HJ1.out; first | omega | exact Nat.le_refl _⟩, ⟨by repeat (first | (with_reducible first | exact HB.out | apply below_alloc | apply pw_below_drewN | apply below_drew1) | exact HB.out)⟩⟩
           ·replace c19 := Bool.eq_false_iff.mpr c19
            subst c19
            have H1 : ((mailroomref04_quoted.f (a0.extract 0 (x5_1 : Int).toNat)).bind fun t217 => (mailroomref04_Parse.j2 kj1 a0 x5_1 (!t217))) = some (r1, r2, r3) := by rw [if_neg (show ¬ (false = true) by decide)] at H; exact H
            clear H
            have H := H1
            clear H1
            have c20b0 := eq_true (of_decide_eq_true (by first | (with_reducible assumption) | assumption) : 0 ≤ x5_1)
            have c21b0 := eq_true (of_decide_eq_true (by first | (with_reducible assumption) | assumption) : x5_1 ≤ (a0.size : Int))
            replace H := Option.bind_eq_some_iff.mp H
            obtain ⟨t217, A220, H⟩ := H
            replace H : (mailroomref04_Parse.j2 kj1 a0 x5_1 (!t217)) = some (r1, r2, r3) := H
            have A22 := Aside0.mk A220
            clear A220
            have H' := Aside0.mk H
            clear H
            have p14 : 0 ≤ ((ji11) : Int) := of_decide_eq_true (by first | (with_reducible assumption) | assumption)
            have q14 : (ji11) < (a0.size : Int) := of_decide_eq_true (by first | (with_reducible assumption) | assumption)
            have hx14 := bt_at a0 (ji11)
            replace p14 := eq_true p14
            replace q14 := eq_true q14
            go_wp2_with (first | (go_at_call 80; (with_reducible refine (mailroomref04_atoms.calls kj1 (a0.extract 0 (x5_1 : Int).toNat) false _ A18.out).mono ?_); rintro e w' ⟨rfl, ⟨nd, rfl⟩⟩) | (go_at_call 81; (with_reducible refine (mailroomref04_quoted.calls (a0.extract 0 (x5_1 : Int).toNat) t217 _ A22.out).mono ?_); rintro e w' ⟨rfl, ⟨nd, rfl⟩⟩))
            go_meet
            case rel => exact ⟨_, (!t217), (by first | rfl | (simp; done) | (simp [*]; done)), H', ⟨by have := HJ1.out; first | omega | exact Nat.le_refl _⟩, ⟨by repeat (first | (with_reducible first | exact HB.out | apply below_alloc | apply pw_below_drewN | apply below_drew1) | exact HB.out)⟩⟩
          ·rw [if_neg c17] at H
           exact absurd H (by simp)
         ·rw [if_neg c16] at H
          exact absurd H (by simp)
       ·rw [if_neg c13] at H
        exact absurd H (by simp)
      ·rw [if_neg c12] at H
       exact absurd H (by simp)
   case rest =>
    clear HC8
    try clear c1
    try clear p1
    try clear q1
    try clear hx1
    try clear c2
    try clear p2
    try clear c3
    try clear c3b0
    try clear c4
    try clear c4b0
    try clear c5
    try clear c5b0
    try clear c6
    try clear p6
    try clear q6
    try clear hx6
    try clear c7
    try clear c7b0
    try clear c7b1
    try clear c9
    try clear c9b0
    try clear c10
    try clear c10b0
    try clear c12
    try clear c12b0
    try clear c13
    try clear c13b0
    try clear p14
    try clear q14
    try clear hx14
    try clear c15
    try clear c15b0
    try clear c15b1
    try clear c16
    try clear c16b0
    try clear c16b1
    try clear c17
    try clear c17b0
    try clear c17b1
    try clear c19
    try clear c20
    try clear c20b0
    try clear c21
    try clear c21b0
    try clear p14
    try clear p2
    try clear p6
    try clear q14
    try clear q6
    obtain ⟨kq, x48_7, rfl, HA, HJ7, HB⟩ := hcut
    cases kq with
    | zero => exact absurd HA.out (by simp [mailroomref04_Parse.j2])
    | succ kj7 =>
     have H := HA.out
     clear HA
     simp only [mailroomref04_Parse.j2] at H
     by_cases c23 : x48_7 = true
     ·subst c23
      have H1 : (some ((⟨#[]⟩ : ByteArray), (⟨#[]⟩ : ByteArray), 4)) = some (r1, r2, r3) := by rw [if_pos rfl] at H; exact H
      clear H
      have H := H1
      clear H1
      simp only [Option.some.injEq, Prod.mk.injEq] at H
      obtain ⟨rfl, rfl, rfl⟩ := H
      go_wp2
      go_ret3
      exact ⟨by first | rfl | (simp [errW_none, errW_some] <;> rfl) | (simp [*, errW_none, errW_some] <;> rfl), by repeat (first | (with_reducible first | exact HB.out | apply below_alloc | apply pw_below_drewN | apply below_drew1) | exact HB.out)⟩
     ·replace c23 := Bool.eq_false_iff.mpr c23
      subst c23
      have H1 : (if 0 ≤ (wrap64 (x5_1 + 1)) then (if (wrap64 (x5_1 + 1)) ≤ (a0.size : Int) then ((mailroomref03_Fold.f kj7 (a0.extract ((wrap64 (x5_1 + 1)) : Int).toNat a0.size)).bind fun bt218 => (if bt218.2 = 0 then (if 0 ≤ x5_1 then (if x5_1 ≤ (a0.size : Int) then (some (a0.extract 0 (x5_1 : Int).toNat, bt218.1, 0)) else (none)) else (none)) else (some ((⟨#[]⟩ : ByteArray), (⟨#[]⟩ : ByteArray), 4)))) else (none)) else (none)) = some (r1, r2, r3) := by rw [if_neg (show ¬ (false = true) by decide)] at H; exact H
      clear H
      have H := H1
      clear H1
      obtain ⟨ji24, hji24⟩ : ∃ j_ : Int, (wrap64 (x5_1 + 1)) = j_ := ⟨_, rfl⟩
      replace H : (if 0 ≤ (ji24) then (if (ji24) ≤ (a0.size : Int) then ((mailroomref03_Fold.f kj7 (a0.extract ((ji24) : Int).toNat a0.size)).bind fun bt218 => (if bt218.2 = 0 then (if 0 ≤ x5_1 then (if x5_1 ≤ (a0.size : Int) then (some (a0.extract 0 (x5_1 : Int).toNat, bt218.1, 0)) else (none)) else (none)) else (some ((⟨#[]⟩ : ByteArray), (⟨#[]⟩ : ByteArray), 4)))) else (none)) else (none)) = some (r1, r2, r3) := by first | (rw [hji24] at H; exact H) | (simp only [hji24] at H ⊢; exact H)
      have hji24w : (IntKind.i64.wrap (x5_1 + 1)) = ji24 := (i64_w _).trans hji24
      by_cases c25 : 0 ≤ (ji24)
      ·rw [if_pos c25] at H
       have c25b0 := eq_true c25
       have c25b1 : decide (0 ≤ (ji24)) = true := decide_eq_true c25
       clear c25
       by_cases c26 : (ji24) ≤ (a0.size : Int)
       ·rw [if_pos c26] at H
        have c26b0 := eq_true c26
        have c26b1 : decide ((ji24) ≤ (a0.size : Int)) = true := decide_eq_true c26
        clear c26
        replace H := Option.bind_eq_some_iff.mp H
        obtain ⟨⟨t218, t219⟩, A270, H⟩ := H
        replace H : (if t219 = 0 then (if 0 ≤ x5_1 then (if x5_1 ≤ (a0.size : Int) then (some (a0.extract 0 (x5_1 : Int).toNat, t218, 0)) else (none)) else (none)) else (some ((⟨#[]⟩ : ByteArray), (⟨#[]⟩ : ByteArray), 4))) = some (r1, r2, r3) := H
        have A27 := Aside0.mk A270
        clear A270
        by_cases c28 : t219 = 0
        ·rw [if_pos c28] at H
         have c28b0 : (t219 == 0) = true := beq_iff_eq.mpr c28
         have c28b1 : (t219 != 0) = false := bne_eq_false_iff_eq.mpr c28
         clear c28
         by_cases c29 : 0 ≤ x5_1
         ·rw [if_pos c29] at H
          have c29b0 := eq_true c29
          have c29b1 : decide (0 ≤ x5_1) = true := decide_eq_true c29
          clear c29
          by_cases c30 : x5_1 ≤ (a0.size : Int)
          ·rw [if_pos c30] at H
           have c30b0 := eq_true c30
           have c30b1 : decide (x5_1 ≤ (a0.size : Int)) = true := decide_eq_true c30
           clear c30
           simp only [Option.some.injEq, Prod.mk.injEq] at H
           obtain ⟨rfl, rfl, rfl⟩ := H
           go_wp2_with (first | ((with_reducible refine gate_callee (f := 82) rfl ?_); refine goesL_ (some 54) rfl rfl Tryz.func82 (by kernel_rfl) rfl #[.string (a0.extract ((ji24) : Int).toNat a0.size)] rfl (by (try simp only [List.map_toArray, List.map_cons, List.map_nil]); first | done | (simp only [hji24]; rfl) | rfl | (simp only [List.length_drop, List.length_take]; rfl)) ?_; (with_reducible refine (mailroomref03_Fold.calls kj7 (a0.extract ((ji24) : Int).toNat a0.size) t218 t219 _ A27.out).mono ?_); rintro e w31 ⟨rfl, hb⟩; refine ⟨_, rfl, ?_⟩; have n0_ := Aside0.mk (below_step (by repeat (first | (with_reducible first | exact HB.out | apply below_alloc | apply pw_below_drewN | apply below_drew1) | exact HB.out)) hb); clear HB; have HB := n0_; clear n0_; (try clear hb); (try clear hb2); (try clear hk); (try clear hi)))
           go_ret3
           exact ⟨by first | rfl | (simp [errW_none, errW_some] <;> rfl) | (simp only [← hji24]; first | rfl | (simp [errW_none, errW_some] <;> rfl)) | (simp [*, errW_none, errW_some] <;> rfl), by repeat (first | (with_reducible first | exact HB.out | apply below_alloc | apply pw_below_drewN | apply below_drew1) | exact HB.out)⟩
          ·rw [if_neg c30] at H
           exact absurd H (by simp)
         ·rw [if_neg c29] at H
          exact absurd H (by simp)
        ·rw [if_neg c28] at H
         have c28b0 : (t219 == 0) = false := beq_eq_false_iff_ne.mpr c28
         have c28b1 : (t219 != 0) = true := bne_iff_ne.mpr c28
         simp only [Option.some.injEq, Prod.mk.injEq] at H
         obtain ⟨rfl, rfl, rfl⟩ := H
         go_wp2_with (first | ((with_reducible refine gate_callee (f := 82) rfl ?_); refine goesL_ (some 54) rfl rfl Tryz.func82 (by kernel_rfl) rfl #[.string (a0.extract ((ji24) : Int).toNat a0.size)] rfl (by (try simp only [List.map_toArray, List.map_cons, List.map_nil]); first | done | (simp only [hji24]; rfl) | rfl | (simp only [List.length_drop, List.length_take]; rfl)) ?_; (with_reducible refine (mailroomref03_Fold.calls kj7 (a0.extract ((ji24) : Int).toNat a0.size) t218 t219 _ A27.out).mono ?_); rintro e w32 ⟨rfl, hb⟩; refine ⟨_, rfl, ?_⟩; have n0_ := Aside0.mk (below_step (by repeat (first | (with_reducible first | exact HB.out | apply below_alloc | apply pw_below_drewN | apply below_drew1) | exact HB.out)) hb); clear HB; have HB := n0_; clear n0_; (try clear hb); (try clear hb2); (try clear hk); (try clear hi)))
         go_ret3
         exact ⟨by first | rfl | (simp [errW_none, errW_some] <;> rfl) | (simp only [← hji24]; first | rfl | (simp [errW_none, errW_some] <;> rfl)) | (simp [*, errW_none, errW_some] <;> rfl), by repeat (first | (with_reducible first | exact HB.out | apply below_alloc | apply pw_below_drewN | apply below_drew1) | exact HB.out)⟩
       ·rw [if_neg c26] at H
        exact absurd H (by simp)
      ·rw [if_neg c25] at H
       exact absurd H (by simp)
end Go.Proofs.YtljkopbalejcgaaGreatDoor.P
end
section
set_option linter.unusedVariables false
set_option linter.unusedSimpArgs false
namespace Go.Proofs.YtljkopbalejcgaaGreatDoor.P
open Go Go.RowKit Go.Lib Go.Proofs.YtljkopbalejcgaaGreatDoorW.PrintWords
theorem bang_bt (s : ByteArray) (n : Nat) (h : n < s.size) : ((s.data[n]!).toNat : Int) = bt s (n : Int) := by
 rw [bt_nat s n h, getElem!_pos s.data n h]; rfl
theorem parse_l (s : ByteArray) (hs : s.size ≤ 1000000) (V : ByteArray × ByteArray × Int) (hj : EvF (fun k => mailroomref04_Parse.j1 k s (lastIdx s 64 s.size)) V) : ∀ n : Nat, n ≤ s.size → lastIdx s 64 n = lastIdx s 64 s.size → EvF (fun k => mailroomref04_Parse.l0 k s ((n : Int) - 1)) V := by
 intro n
 induction n with
 | zero =>
  intro hn he
  refine EvF.succ hj (fun k => ?_)
  simp only [mailroomref04_Parse.l0]
  rw [if_neg (by omega), ← he]; rfl
 | succ n ih =>
  intro hn he
  have e1 : ((n + 1 : Nat) : Int) - 1 = (n : Int) := by omega
  rw [e1]
  have hb := bang_bt s n (by omega)
  by_cases h : bt s (n : Int) = 64
  ·refine EvF.succ hj (fun k => ?_)
   simp only [mailroomref04_Parse.l0]
   rw [if_pos (by omega), if_pos (by omega), if_pos (by omega), if_pos h, ← he]
   simp [lastIdx, hb, h]
  ·have hw : wrap64 ((n : Int) - 1) = (n : Int) - 1 := by unfold wrap64; omega
   refine EvF.succ (ih (by omega) (by rw [← he]; simp [lastIdx, hb, h])) (fun k => ?_)
   simp only [mailroomref04_Parse.l0]
   rw [if_pos (by omega), if_pos (by omega), if_pos (by omega), if_neg h, hw]
def parseR (l : List UInt8) : ByteArray × ByteArray × Int := match addrParse l with
 | some q => (baOf q.1, baOf q.2, 0)
 | none => (⟨#[]⟩, ⟨#[]⟩, 4)
theorem parse_j2t (s : ByteArray) (x : Int) : EvF (fun k => mailroomref04_Parse.j2 k s x true) (⟨#[]⟩, ⟨#[]⟩, 4) := EvF.succ_some fun k => by simp [mailroomref04_Parse.j2]
theorem parse_j2f (s : ByteArray) (hs : s.size ≤ 1000000) (n : Nat) (hn : n < s.size) : EvF (fun k => mailroomref04_Parse.j2 k s (n : Int) false) (match foldName (s.data.toList.drop (n + 1)) with
  | some d => (baOf (s.data.toList.take n), baOf d, 0)
  | none => (⟨#[]⟩, ⟨#[]⟩, 4)) := by
 have hw : wrap64 ((n : Int) + 1) = ((n + 1 : Nat) : Int) := wrap64_small _ (by omega) (by omega)
 have e1 : s.extract (n + 1) s.size = baOf (s.data.toList.drop (n + 1)) := by
  rw [ext_data, List.take_of_length_le (by rw [List.length_drop, len_eq]; exact Nat.le_refl _)]
 have e2 : s.extract 0 n = baOf (s.data.toList.take n) := by rw [ext_data]; simp
 have hf := fold03_ev (baOf (s.data.toList.drop (n + 1))) (by rw [baOf_size, List.length_drop, len_eq]; omega)
 rw [baOf_list] at hf
 refine EvF.succ (g := fun k => (mailroomref03_Fold.f k (baOf (s.data.toList.drop (n + 1)))).bind fun q => if q.2 = 0 then some (baOf (s.data.toList.take n), q.1, 0) else some (⟨#[]⟩, ⟨#[]⟩, 4)) ?_ (fun k => ?_)
 ·refine EvF.bind hf (EvF.of fun k => ?_)
  unfold foldName foldR
  cases nameMay (foldT (s.data.toList.drop (n + 1))) <;> rfl
 ·simp only [mailroomref04_Parse.j2]
  rw [if_neg (by simp), hw, if_pos (by omega), if_pos (by omega)]
  simp only [Int.toNat_natCast]
  rw [e1, e2]
  simp only [show (0 : Int) ≤ (n : Int) from by omega, show (n : Int) ≤ (s.size : Int) from by omega, if_true]
theorem lastIdx_rng (s : ByteArray) : ∀ n : Nat, -1 ≤ lastIdx s 64 n ∧ lastIdx s 64 n < n := by
 intro n
 induction n with
 | zero => simp [lastIdx]
 | succ n ih =>
  simp only [lastIdx]
  split <;> omega
theorem hasSuf_bt (s : ByteArray) (h : 0 < s.size) : Lib.hasSuffix s.data.toList [46] = (bt s ((s.size - 1 : Nat) : Int) == 46) := by
 have hl := last_bt s h 46
 rw [show ((46 : UInt8).toNat : Int) = 46 from rfl] at hl
 rw [← hl, Bool.eq_iff_iff]
 constructor
 ·intro hq
  obtain ⟨m, hm⟩ := List.isSuffixOf_iff_suffix.1 hq
  rw [← hm]; simp
 ·intro hq
  obtain ⟨ys, hy⟩ := List.getLast?_eq_some_iff.1 (beq_iff_eq.1 hq)
  rw [hy]; simp [Lib.hasSuffix, List.isSuffixOf, List.isPrefixOf]
theorem parse04_ev (s : ByteArray) (hs : s.size ≤ 1000000) : EvF (fun k => mailroomref04_Parse.f k s) (parseR s.data.toList) := by
 have hat : lastAt s.data.toList = lastIdx s 64 s.size := rfl
 have hr := lastIdx_rng s s.size
 have key : EvF (fun k => mailroomref04_Parse.j1 k s (lastIdx s 64 s.size)) (parseR s.data.toList) := by
  unfold parseR addrParse
  rw [hat]
  generalize lastIdx s 64 s.size = x at hr
  by_cases h1 : x < 1
  ·rw [if_pos (.inl h1)]
   refine EvF.succ (parse_j2t s x) (fun k => ?_)
   simp only [mailroomref04_Parse.j1]; rw [if_pos h1]
  ·by_cases h64 : x > 64
   ·rw [if_pos (.inr (.inl h64))]
    refine EvF.succ (parse_j2t s x) (fun k => ?_)
    simp only [mailroomref04_Parse.j1]; rw [if_neg h1, if_pos h64]
   ·obtain ⟨n, rfl⟩ : ∃ n : Nat, x = (n : Int) := ⟨x.toNat, by omega⟩
    have hw : wrap64 ((s.size : Int) - 1) = ((s.size - 1 : Nat) : Int) := by rw [show (s.size : Int) - 1 = ((s.size - 1 : Nat) : Int) by omega]; exact wrap64_small _ (by omega) (by omega)
    have hsf := hasSuf_bt s (by omega)
    cases hb : (bt s ((s.size - 1 : Nat) : Int) == 46) with
    | true =>
     rw [if_pos (.inr (.inr (by rw [hsf, hb])))]
     refine EvF.succ (parse_j2t s n) (fun k => ?_)
     simp only [mailroomref04_Parse.j1]
     rw [if_neg h1, if_neg h64, hw, if_pos (by omega), if_pos (by omega), if_pos (beq_iff_eq.1 hb)]
    | false =>
     rw [if_neg (by rw [hsf, hb]; simp; omega)]
     have e2 : s.extract 0 n = baOf (s.data.toList.take n) := by rw [ext_data]; simp
     have ha := atoms_ev (baOf (s.data.toList.take n)) (by rw [baOf_size, List.length_take, len_eq]; omega)
     have hq : mailroomref04_quoted.f (baOf (s.data.toList.take n)) = some (quotedOk (s.data.toList.take n)) := by
      unfold mailroomref04_quoted.f; rw [if_pos (by rw [baOf_size, List.length_take, len_eq]; omega)]; rfl
     rw [baOf_list] at ha
     have hf := parse_j2f s hs n (by omega)
     have ht := parse_j2t s (n : Int)
     have hloc : localOk (s.data.toList.take n) = (atomsOk (s.data.toList.take n) || quotedOk (s.data.toList.take n)) := rfl
     simp only [Int.toNat_natCast]
     rw [hloc]
     refine EvF.succ (g := fun k => (mailroomref04_atoms.f k (baOf (s.data.toList.take n))).bind fun t => if t = true then mailroomref04_Parse.j2 k s (n : Int) false else mailroomref04_Parse.j2 k s (n : Int) (!quotedOk (s.data.toList.take n))) ?_ (fun k => ?_)
     ·refine EvF.bind ha ?_
      cases atomsOk (s.data.toList.take n) with
      | true =>
       refine (hf.congr fun k => rfl) |> fun e => ?_
       simp only [Bool.true_or, Bool.true_eq_false, if_false]
       cases hfn : foldName (s.data.toList.drop (n + 1)) <;> rw [hfn] at hf <;> exact hf
      | false =>
       cases quotedOk (s.data.toList.take n) with
       | true =>
        simp only [Bool.or_true, Bool.true_eq_false, if_false]
        cases hfn : foldName (s.data.toList.drop (n + 1)) <;> rw [hfn] at hf <;> exact hf
       | false => exact ht
     ·simp only [mailroomref04_Parse.j1]
      rw [if_neg h1, if_neg h64, hw, if_pos (by omega), if_pos (by omega), if_neg (beq_eq_false_iff_ne.1 hb), if_pos (by omega), if_pos (by omega)]
      simp only [Int.toNat_natCast]
      rw [e2, hq]; rfl
 have := parse_l s hs _ key s.size (Nat.le_refl _) rfl
 refine this.congr fun k => ?_
 unfold mailroomref04_Parse.f
 rw [show wrap64 ((s.size : Int) - 1) = (s.size : Int) - 1 from by unfold wrap64; omega]
end Go.Proofs.YtljkopbalejcgaaGreatDoor.P
end
section
namespace Go.Proofs.YtljkopbalejcgaaGreatDoor.P
open Go.RowKit Go.Proofs.YtljkopbalejcgaaGreatDoorW.PrintWords Go.Proofs.YtljkopbalejcgaaGreatDoorW.PrintLast Go.Proofs.YtljkopbalejcgaaGreatDoorW.PrintMore
attribute [local go_sem] max2_int min2_int max_two min_two max_three min_three max_four min_four
set_option linter.unusedVariables false
set_option linter.unusedSimpArgs false
def mailroomref04_May.f (k : Nat) (a0 : ByteArray) : Option (Bool) := (mailroomref04_Parse.f k a0).bind fun bt220 => (some (bt220.2.2 == 0))
theorem mailroomref04_May.mono : ∀ a0 k, LeO (mailroomref04_May.f k a0) (mailroomref04_May.f (k + 1) a0) := by
 intro a0 k
 unfold mailroomref04_May.f
 repeat' first
   | (with_reducible exact mailroomref04_Parse.mono _ _)
   | (with_reducible exact LeO.refl _)
   | (with_reducible exact LeO.none _)
   | (with_reducible refine LeO.ite ?_ ?_)
   | (with_reducible refine LeO.bind ?_ (fun _ => ?_))
   | exact mailroomref04_Parse.mono _ _
   | exact LeO.none _
   | refine LeO.ite ?_ ?_
   | refine LeO.bind ?_ (fun _ => ?_)
set_option maxHeartbeats 8000000 in
set_option maxRecDepth 100000 in
theorem mailroomref04_May.calls (k : Nat) (a0 : ByteArray) (r : Bool) (w : World) (h : mailroomref04_May.f k a0 = some r) :
  Calls Tryz.prog 40 #[.string a0] w fun e w' => e = .returned (.bool r) ∧ Below w.heap.size w w' := by
 have HB := Aside0.mk (Below.refl w.heap.size w)
 have H : ((mailroomref04_Parse.f k a0).bind fun bt220 => (some (bt220.2.2 == 0))) = some r := h
 clear h
 replace H := Option.bind_eq_some_iff.mp H
 obtain ⟨⟨t220, t221, t222⟩, A20, H⟩ := H
 replace H : (some (t222 == 0)) = some r := H
 have A2 := Aside0.mk A20
 clear A20
 obtain rfl := Option.some.inj H
 go_enter Tryz.func40, Tryz.ntmps40
 go_wp2_with (first | ((with_reducible refine gate_callee (f := 62) rfl ?_); refine goesL_ (some 8) rfl rfl Tryz.func62 (by kernel_rfl) rfl #[.string a0] rfl (by (try simp only [List.map_toArray, List.map_cons, List.map_nil]); first | done | rfl | (simp only [List.length_drop, List.length_take]; rfl)) ?_; (with_reducible refine (mailroomref04_Parse.calls k a0 t220 t221 t222 _ A2.out).mono ?_); rintro e w3 ⟨rfl, hb⟩; refine ⟨_, rfl, ?_⟩; have n0_ := Aside0.mk (below_step (by repeat (first | (with_reducible first | exact HB.out | apply below_alloc | apply pw_below_drewN | apply below_drew1) | exact HB.out)) hb); clear HB; have HB := n0_; clear n0_; (try clear hb); (try clear hb2); (try clear hk); (try clear hi)))
 go_ret
 exact ⟨by first | rfl | (simp [errW_none, errW_some] <;> rfl) | (simp [*, errW_none, errW_some] <;> rfl), by repeat (first | (with_reducible first | exact HB.out | apply below_alloc | apply pw_below_drewN | apply below_drew1) | exact HB.out)⟩
end Go.Proofs.YtljkopbalejcgaaGreatDoor.P
end
section
namespace Go.Proofs.YtljkopbalejcgaaGreatDoor.P
open Go.RowKit Go.Proofs.YtljkopbalejcgaaGreatDoorW.PrintWords Go.Proofs.YtljkopbalejcgaaGreatDoorW.PrintLast Go.Proofs.YtljkopbalejcgaaGreatDoorW.PrintMore
attribute [local go_sem] max2_int min2_int max_two min_two max_three min_three max_four min_four
set_option linter.unusedVariables false
set_option linter.unusedSimpArgs false
def mailroomlaw07_told.l0 : Nat → Int → Int → ByteArray → List (S56) → Int → ByteArray → List (S67) → Option (Int × ByteArray × (List (S67)))
 | 0, _, _, _, _, _, _, _ => none
 | k + 1, x4, x268000, x268001, x268002, x270000, x270001, x270002 => if x4 < (x268002.length : Int) then (if 0 ≤ x4 then (if x270002.length < 4398046511104 then (mailroomlaw07_told.l0 k (wrap64 (x4 + 1)) x268000 x268001 x268002 x270000 x270001 (x270002 ++ [(⟨(rd_T56 x268002 x4).f0, (rd_T56 x268002 x4).f1⟩ : S67)])) else (none)) else (none)) else (some (x270000, x270001, x270002))
def mailroomlaw07_told.f (k : Nat) (a0_0 : Int) (a0_1 : ByteArray) (l0_2 : List (S56)) : Option (Int × ByteArray × (List (S67))) := mailroomlaw07_told.l0 k 0 a0_0 a0_1 l0_2 a0_0 a0_1 ([] : List (S67))
theorem mailroomlaw07_told.mono_l : ∀ k, (∀ y0 y1 y2 y3 y4 y5 y6, LeO (mailroomlaw07_told.l0 k y0 y1 y2 y3 y4 y5 y6) (mailroomlaw07_told.l0 (k + 1) y0 y1 y2 y3 y4 y5 y6))
 | 0 => fun _ _ _ _ _ _ _ r h => by simp [mailroomlaw07_told.l0] at h
 | k + 1 => by
  have ih0 := mailroomlaw07_told.mono_l k
  ·intro y0 y1 y2 y3 y4 y5 y6
   unfold mailroomlaw07_told.l0
   repeat' first
   | (with_reducible exact ih0 _ _ _ _ _ _ _)
   | (with_reducible exact LeO.refl _)
   | (with_reducible exact LeO.none _)
   | (with_reducible refine LeO.ite ?_ ?_)
   | (with_reducible refine LeO.bind ?_ (fun _ => ?_))
   | exact ih0 _ _ _ _ _ _ _
   | exact LeO.none _
   | refine LeO.ite ?_ ?_
   | refine LeO.bind ?_ (fun _ => ?_)
theorem mailroomlaw07_told.mono : ∀ a0 a1 a2 k, LeO (mailroomlaw07_told.f k a0 a1 a2) (mailroomlaw07_told.f (k + 1) a0 a1 a2) := by
 intro a0 a1 a2 k
 have ih0 := mailroomlaw07_told.mono_l k
 unfold mailroomlaw07_told.f
 repeat' first
   | (with_reducible exact ih0 _ _ _ _ _ _ _)
   | (with_reducible exact LeO.refl _)
   | (with_reducible exact LeO.none _)
   | (with_reducible refine LeO.ite ?_ ?_)
   | (with_reducible refine LeO.bind ?_ (fun _ => ?_))
   | exact ih0 _ _ _ _ _ _ _
   | exact LeO.none _
   | refine LeO.ite ?_ ?_
   | refine LeO.bind ?_ (fun _ => ?_)
def mailroomlaw07_told.T5 : Bool × List (List Nat × List Nat) := (true, [([], []), ([0], [0]), ([], []), ([2], [2]), ([], []), ([3, 4], [3, 4]), ([5], [5]), ([6], [6]), ([1, 7], [1, 7]), ([0, 1, 2, 3, 4, 5, 6, 7, 8], []), ([9, 8, 8, 0, 1, 2, 3, 4, 5, 6, 7, 8], [8, 9])])
def mailroomlaw07_told.B5 : List Nat := [0, 1, 0, 4, 0, 28, 60, 124, 255, 511, 1023]
theorem mailroomlaw07_told.tab5 : rtab .any (opsOf Tryz.f11 5) = mailroomlaw07_told.T5 := by kernel_rfl
theorem mailroomlaw07_told.bits5 : waitsOk mailroomlaw07_told.T5.2 mailroomlaw07_told.B5 = true := by kernel_rfl
set_option maxHeartbeats 8000000 in
set_option maxRecDepth 100000 in
theorem mailroomlaw07_told.calls (k : Nat) (a0_0 : Int) (a0_1 : ByteArray) (A0_2 : Option Addr) (c0_2 : Nat) (l0_2 : List (S56)) (r1 : Int) (r2 : ByteArray) (r3 : List (S67)) (w : World) (hr0_2 : Kd.C k56 w A0_2 l0_2.length l0_2) (hc0_2 : l0_2.length ≤ c0_2) (h : mailroomlaw07_told.f k a0_0 a0_1 l0_2 = some (r1, r2, r3)) :
  Calls Tryz.prog 11 #[.agg #[.int .u8 a0_0, .string a0_1, .slice A0_2 l0_2.length c0_2]] w fun e w' => ∃ v2_ : Value, e = .returned (.agg #[.int .u8 r1, .string r2, v2_]) ∧ Kd.R k67 67 w' w.heap.size (fun _ => True) v2_ r3 ∧ Below w.heap.size w w' := by
 have hu27 := Tryz.underlying27
 have hu33 := Tryz.underlying33
 have hu56 := Tryz.underlying56
 have HR0_2 := Aside0.mk hr0_2
 have HC0_2 := Aside0.mk hc0_2
 clear hr0_2 hc0_2
 have HB := Aside0.mk (Below.refl w.heap.size w)
 have H : (mailroomlaw07_told.l0 k 0 a0_0 a0_1 l0_2 a0_0 a0_1 ([] : List (S67))) = some (r1, r2, r3) := h
 clear h
 have H' := Aside0.mk H
 clear H
 go_enter Tryz.func11, Tryz.ntmps11
 go_wp2_with (first | ((with_reducible refine gate_dst (N := 1) rfl ?_); refine box_event ?hg (N := 1) ?hd (cs := #[.int .u8 a0_0, .string a0_1, .slice A0_2 l0_2.length c0_2]) (t := 27) ?hr ?_; (case hd => rfl); (case hg => rfl); (case hr => first | (go_simp; done) | (go_simp; rfl)); intro gb267 hg w2 hbox hb; have n0_ := Aside0.mk (below_step (by repeat (first | (with_reducible first | exact HB.out | apply below_alloc | apply pw_below_drewN | apply below_drew1) | exact HB.out)) hb); have n1_ := Aside0.mk (hbox); have n2_ := Aside0.mk ((by rw [hg]; exact (below_size (by repeat (first | (with_reducible first | exact HB.out | apply below_alloc | apply pw_below_drewN | apply below_drew1) | exact HB.out))) : w.heap.size ≤ gb267)); have n3_ := Aside0.mk ((by rw [hg]; exact (below_size (by repeat (first | (with_reducible first | exact HB.out | apply below_alloc | apply pw_below_drewN | apply below_drew1) | exact HB.out))) : w.heap.size ≤ gb267)); clear HB; have HB := n0_; have BK267 := n1_; have GW267 := n2_; have GE267 := n3_; clear n0_ n1_ n2_ n3_; clear hb hbox hg) | ((with_reducible refine gate_dst (N := 2) rfl ?_); refine box_event ?hg (N := 2) ?hd (cs := #[.int .u8 0, .string (⟨#[]⟩ : ByteArray), .slice none 0 0]) (t := 33) ?hr ?_; (case hd => rfl); (case hg => rfl); (case hr => first | (go_simp; done) | (go_simp; rfl)); intro gb268 hg w3 hbox hb; have n0_ := Aside0.mk (blk_below (g := gb267) (o := .cells #[.int .u8 a0_0, .string a0_1, .slice A0_2 l0_2.length c0_2] 27 (0, 0)) (by (with_reducible repeat (first | refine blk_drewN ?_ _ | refine blk_drew ?_ | refine blk_alloc ?_ _)); exact BK267.out) hb); have n1_ := Aside0.mk (below_step (by repeat (first | (with_reducible first | exact HB.out | apply below_alloc | apply pw_below_drewN | apply below_drew1 | refine below_set ?_ GE267.out) | exact HB.out)) hb); have n2_ := Aside0.mk (hbox); have n3_ := Aside0.mk ((by rw [hg]; exact (below_size (by repeat (first | (with_reducible first | exact HB.out | apply below_alloc | apply pw_below_drewN | apply below_drew1 | refine below_set ?_ GE267.out) | exact HB.out))) : w.heap.size ≤ gb268)); have n4_ := Aside0.mk ((by rw [hg]; exact (below_size (by repeat (first | (with_reducible first | exact HB.out | apply below_alloc | apply pw_below_drewN | apply below_drew1 | refine below_set ?_ GE267.out) | exact HB.out))) : w.heap.size ≤ gb268)); have n5_ := Aside0.mk ((by rw [hg]; exact Nat.ne_of_lt (blk_lt (g := gb267) (o := .cells #[.int .u8 a0_0, .string a0_1, .slice A0_2 l0_2.length c0_2] 27 (0, 0)) (by (with_reducible repeat (first | refine blk_drewN ?_ _ | refine blk_drew ?_ | refine blk_alloc ?_ _)); exact BK267.out)) : gb267 ≠ gb268)); have n6_ := Aside0.mk ((by rw [hg]; exact Nat.ne_of_gt (blk_lt (g := gb267) (o := .cells #[.int .u8 a0_0, .string a0_1, .slice A0_2 l0_2.length c0_2] 27 (0, 0)) (by (with_reducible repeat (first | refine blk_drewN ?_ _ | refine blk_drew ?_ | refine blk_alloc ?_ _)); exact BK267.out)) : gb268 ≠ gb267)); clear BK267; clear HB; have BK267 := n0_; have HB := n1_; have BK268 := n2_; have GW268 := n3_; have GE268 := n4_; have NB267_268 := n5_; have NB268_267 := n6_; clear n0_ n1_ n2_ n3_ n4_ n5_ n6_; clear hb hbox hg; have hnb4 := NB267_268.out; have hnc4 := NB268_267.out; have hcz5_0 : w3.cell? ⟨gb267, 0, none⟩ = some (.int .u8 a0_0) := (blk_cell BK267.out 0).trans rfl; have hcz5_1 : w3.cell? ⟨gb267, 1, none⟩ = some (.string a0_1) := (blk_cell BK267.out 1).trans rfl; have hcz5_2 : w3.cell? ⟨gb267, 2, none⟩ = some (.slice A0_2 l0_2.length c0_2) := (blk_cell BK267.out 2).trans rfl; have hfz5_0 := blk_frozen BK267.out 0; have hfz5_1 := blk_frozen BK267.out 1; have hfz5_2 := blk_frozen BK267.out 2) | ((with_reducible refine gate_dst (N := 3) rfl ?_); refine box_event ?hg (N := 3) ?hd (cs := #[.int .u8 0, .string (⟨#[]⟩ : ByteArray), .slice none 0 0]) (t := 33) ?hr ?_; (case hd => rfl); (case hg => rfl); (case hr => first | (go_simp; done) | (go_simp; rfl)); intro gb269 hg w6 hbox hb; have n0_ := Aside0.mk (blk_below (g := gb267) (o := .cells #[.int .u8 a0_0, .string a0_1, .slice A0_2 l0_2.length c0_2] 27 (0, 0)) (by (with_reducible repeat (first | refine blk_drewN ?_ _ | refine blk_drew ?_ | refine blk_alloc ?_ _)); exact BK267.out) hb); have n1_ := Aside0.mk (blk_below (g := gb268) (o := .cells #[.int .u8 0, .string (⟨#[]⟩ : ByteArray), .slice none 0 0] 33 (0, 0)) (by (with_reducible repeat (first | refine blk_drewN ?_ _ | refine blk_drew ?_ | refine blk_alloc ?_ _)); exact BK268.out) hb); have n2_ := Aside0.mk (below_step (by repeat (first | (with_reducible first | exact HB.out | apply below_alloc | apply pw_below_drewN | apply below_drew1 | refine below_set ?_ GE267.out | refine below_set ?_ GE268.out) | exact HB.out)) hb); have n3_ := Aside0.mk (hbox); have n4_ := Aside0.mk ((by rw [hg]; exact (below_size (by repeat (first | (with_reducible first | exact HB.out | apply below_alloc | apply pw_below_drewN | apply below_drew1 | refine below_set ?_ GE267.out | refine below_set ?_ GE268.out) | exact HB.out))) : w.heap.size ≤ gb269)); have n5_ := Aside0.mk ((by rw [hg]; exact (below_size (by repeat (first | (with_reducible first | exact HB.out | apply below_alloc | apply pw_below_drewN | apply below_drew1 | refine below_set ?_ GE267.out | refine below_set ?_ GE268.out) | exact HB.out))) : w.heap.size ≤ gb269)); have n6_ := Aside0.mk ((by rw [hg]; exact Nat.ne_of_lt (blk_lt (g := gb267) (o := .cells #[.int .u8 a0_0, .string a0_1, .slice A0_2 l0_2.length c0_2] 27 (0, 0)) (by (with_reducible repeat (first | refine blk_drewN ?_ _ | refine blk_drew ?_ | refine blk_alloc ?_ _)); exact BK267.out)) : gb267 ≠ gb269)); have n7_ := Aside0.mk ((by rw [hg]; exact Nat.ne_of_gt (blk_lt (g := gb267) (o := .cells #[.int .u8 a0_0, .string a0_1, .slice A0_2 l0_2.length c0_2] 27 (0, 0)) (by (with_reducible repeat (first | refine blk_drewN ?_ _ | refine blk_drew ?_ | refine blk_alloc ?_ _)); exact BK267.out)) : gb269 ≠ gb267)); have n8_ := Aside0.mk ((by rw [hg]; exact Nat.ne_of_lt (blk_lt (g := gb268) (o := .cells #[.int .u8 0, .string (⟨#[]⟩ : ByteArray), .slice none 0 0] 33 (0, 0)) (by (with_reducible repeat (first | refine blk_drewN ?_ _ | refine blk_drew ?_ | refine blk_alloc ?_ _)); exact BK268.out)) : gb268 ≠ gb269)); have n9_ := Aside0.mk ((by rw [hg]; exact Nat.ne_of_gt (blk_lt (g := gb268) (o := .cells #[.int .u8 0, .string (⟨#[]⟩ : ByteArray), .slice none 0 0] 33 (0, 0)) (by (with_reducible repeat (first | refine blk_drewN ?_ _ | refine blk_drew ?_ | refine blk_alloc ?_ _)); exact BK268.out)) : gb269 ≠ gb268)); clear BK267; clear BK268; clear HB; have BK267 := n0_; have BK268 := n1_; have HB := n2_; have BK269 := n3_; have GW269 := n4_; have GE269 := n5_; have NB267_269 := n6_; have NB269_267 := n7_; have NB268_269 := n8_; have NB269_268 := n9_; clear n0_ n1_ n2_ n3_ n4_ n5_ n6_ n7_ n8_ n9_; clear hb hbox hg; have hnb7 := NB269_267.out; have hnc7 := NB267_269.out; have hnb8 := NB269_268.out; have hnc8 := NB268_269.out; have hcz9_0 : w6.cell? ⟨gb269, 0, none⟩ = some (.int .u8 0) := (blk_cell BK269.out 0).trans rfl; have hcz9_1 : w6.cell? ⟨gb269, 1, none⟩ = some (.string (⟨#[]⟩ : ByteArray)) := (blk_cell BK269.out 1).trans rfl; have hcz9_2 : w6.cell? ⟨gb269, 2, none⟩ = some (.slice none 0 0) := (blk_cell BK269.out 2).trans rfl; have hfz9_0 := blk_frozen BK269.out 0; have hfz9_1 := blk_frozen BK269.out 1; have hfz9_2 := blk_frozen BK269.out 2))
 go_loopg [4] k (fun kq v4 w' => ∃ (x4_1 : Int) (x270002_1 : List (S67)) (u270002 : Value), v4 = .int .i64 x4_1 ∧ Aside0 (mailroomlaw07_told.l0 kq x4_1 a0_0 a0_1 l0_2 a0_0 a0_1 x270002_1 = some (r1, r2, r3)) ∧ Aside0 (kq ≤ k) ∧ Aside0 (Kd.R k67 67 w' w.heap.size (fun _ => True) u270002 x270002_1) ∧ Aside0 (w'.heap[gb267]? = some (.cells #[.int .u8 a0_0, .string a0_1, (.slice A0_2 l0_2.length c0_2)] 27 (0, 0))) ∧ Aside0 (w'.heap[gb268]? = some (.cells #[.int .u8 0, .string (⟨#[]⟩ : ByteArray), (.slice none 0 0)] 33 (0, 0))) ∧ Aside0 (w'.heap[gb269]? = some (.cells #[.int .u8 a0_0, .string a0_1, u270002] 33 (0, 0))) ∧ Aside0 (Below w.heap.size w w'))
 case atStart => exact ⟨(0), (([] : List (S67))), (.slice none 0 0), (by first | rfl | (simp; done) | (simp [*]; done)), H', ⟨Nat.le_refl _⟩, ⟨by first | exact Kd.R_nil _ _ _ _ _ | exact Kd.N_nil _ _ _ _ _ | exact Kd.V_nil _ _ _ _ _ | exact Kd.Q_nil _ _ _ _ _ | exact Kd.S_nil _ _ _ _ _⟩, ⟨by (with_reducible repeat (first | refine blk_drewN ?_ _ | refine blk_drew ?_ | refine blk_alloc ?_ _)); refine blk_far ?_ NB267_269.out _; (with_reducible repeat (first | refine blk_drewN ?_ _ | refine blk_drew ?_ | refine blk_alloc ?_ _)); refine blk_far ?_ NB267_269.out _; (with_reducible repeat (first | refine blk_drewN ?_ _ | refine blk_drew ?_ | refine blk_alloc ?_ _)); refine blk_far ?_ NB267_269.out _; (with_reducible repeat (first | refine blk_drewN ?_ _ | refine blk_drew ?_ | refine blk_alloc ?_ _)); exact BK267.out⟩, ⟨by (with_reducible repeat (first | refine blk_drewN ?_ _ | refine blk_drew ?_ | refine blk_alloc ?_ _)); refine blk_far ?_ NB268_269.out _; (with_reducible repeat (first | refine blk_drewN ?_ _ | refine blk_drew ?_ | refine blk_alloc ?_ _)); refine blk_far ?_ NB268_269.out _; (with_reducible repeat (first | refine blk_drewN ?_ _ | refine blk_drew ?_ | refine blk_alloc ?_ _)); refine blk_far ?_ NB268_269.out _; (with_reducible repeat (first | refine blk_drewN ?_ _ | refine blk_drew ?_ | refine blk_alloc ?_ _)); exact BK268.out⟩, ⟨by (with_reducible repeat (first | refine blk_drewN ?_ _ | refine blk_drew ?_ | refine blk_alloc ?_ _)); refine blk_put (cs := #[.int .u8 a0_0, .string a0_1, .slice none 0 0]) ?_ 2 _ rfl; (with_reducible repeat (first | refine blk_drewN ?_ _ | refine blk_drew ?_ | refine blk_alloc ?_ _)); refine blk_put (cs := #[.int .u8 a0_0, .string (⟨#[]⟩ : ByteArray), .slice none 0 0]) ?_ 1 _ rfl; (with_reducible repeat (first | refine blk_drewN ?_ _ | refine blk_drew ?_ | refine blk_alloc ?_ _)); refine blk_put (cs := #[.int .u8 0, .string (⟨#[]⟩ : ByteArray), .slice none 0 0]) ?_ 0 _ rfl; (with_reducible repeat (first | refine blk_drewN ?_ _ | refine blk_drew ?_ | refine blk_alloc ?_ _)); exact BK269.out⟩, ⟨by repeat (first | (with_reducible first | exact HB.out | apply below_alloc | apply pw_below_drewN | apply below_drew1 | refine below_set ?_ GE267.out | refine below_set ?_ GE268.out | refine below_set ?_ GE269.out) | exact HB.out)⟩⟩
 case round =>
  clear H'
  try clear c1
  try clear p2
  try clear c4
  try clear c7
  try clear c8
  try clear hcz5_0
  try clear hcz5_1
  try clear hcz5_2
  try clear hcz9_0
  try clear hcz9_1
  try clear hcz9_2
  try clear hfz5_0
  try clear hfz5_1
  try clear hfz5_2
  try clear hfz9_0
  try clear hfz9_1
  try clear hfz9_2
  obtain ⟨x4_1, x270002_1, u270002, rfl, HA, HK1, HO_270002, BK267, BK268, BK269, HB⟩ := hrel
  cases gk with
  | zero => exact absurd HA.out (by simp [mailroomlaw07_told.l0])
  | succ k1 =>
   have H := HA.out
   clear HA
   simp only [mailroomlaw07_told.l0] at H
   by_cases c10 : x4_1 < (l0_2.length : Int)
   ·rw [if_pos c10] at H
    have c10b0 : decide (x4_1 < (l0_2.length : Int)) = true := decide_eq_true c10
    clear c10
    by_cases c11 : 0 ≤ x4_1
    ·rw [if_pos c11] at H
     have c11b0 : decide (0 ≤ x4_1) = true := decide_eq_true c11
     clear c11
     by_cases c12 : x270002_1.length < 4398046511104
     ·rw [if_pos c12] at H
      have LMc12 := Aside0.mk c12
      clear c12
      obtain ⟨y271, hy271⟩ : ∃ y_ : List (S67), y_ = (x270002_1 ++ [(⟨(rd_T56 l0_2 x4_1).f0, (rd_T56 l0_2 x4_1).f1⟩ : S67)]) := ⟨_, rfl⟩
      replace H : (mailroomlaw07_told.l0 k1 (wrap64 (x4_1 + 1)) a0_0 a0_1 l0_2 a0_0 a0_1 y271) = some (r1, r2, r3) := by first | (rw [hy271]; with_reducible exact H) | (have H2_ := (Option.bind_some _ _).symm.trans H; rw [hy271]; with_reducible exact H2_) | (have H2_ := (Option.bind_some _ _).symm.trans H; with_reducible exact H2_) | with_reducible exact H | (rw [hy271]; exact H) | exact H
      have Ny271 := Aside0.mk hy271
      clear hy271
      have H' := Aside0.mk H
      clear H
      have hnb13 := NB267_268.out
      have hnc13 := NB268_267.out
      have hnb14 := NB267_269.out
      have hnc14 := NB269_267.out
      have hcz15_0 : wr.cell? ⟨gb267, 0, none⟩ = some (.int .u8 a0_0) := (blk_cell BK267.out 0).trans rfl
      have hcz15_1 : wr.cell? ⟨gb267, 1, none⟩ = some (.string a0_1) := (blk_cell BK267.out 1).trans rfl
      have hcz15_2 : wr.cell? ⟨gb267, 2, none⟩ = some (.slice A0_2 l0_2.length c0_2) := (blk_cell BK267.out 2).trans rfl
      have hfz15_0 := blk_frozen BK267.out 0
      have hfz15_1 := blk_frozen BK267.out 1
      have hfz15_2 := blk_frozen BK267.out 2
      try go_wp2
      have n0_ := Aside0.mk (Kd.R_drew HO_270002.out)
      have n1_ := Aside0.mk (blk_drew BK267.out)
      have n2_ := Aside0.mk (blk_drew BK268.out)
      have n3_ := Aside0.mk (blk_drew BK269.out)
      have n4_ := Aside0.mk (below_drew1 HB.out)
      clear HO_270002
      clear BK267
      clear BK268
      clear BK269
      clear HB
      have HO_270002 := n0_
      have BK267 := n1_
      have BK268 := n2_
      have BK269 := n3_
      have HB := n4_
      clear n0_ n1_ n2_ n3_ n4_
      have p270 : 0 ≤ (x4_1 : Int) := of_decide_eq_true (by first | (with_reducible assumption) | assumption)
      have q270 : x4_1 < (l0_2.length : Int) := of_decide_eq_true (by first | (with_reducible assumption) | assumption)
      obtain ⟨ad270, e270, hx270_0, hx270_1⟩ := at_T56 HR0_2.out x4_1 p270 q270
      have hw270_1 := hx270_1
      have hw270_0 := hx270_0
      cases e270
      replace hx270_0 := (HB.out.cell (World.block_lt_of_cell? w _ hx270_0)).trans hx270_0
      replace hx270_1 := (HB.out.cell (World.block_lt_of_cell? w _ hx270_1)).trans hx270_1
      replace p270 := eq_true p270
      replace q270 := eq_true q270
      refine start_ (n := 11) (S := fun w' => w'.cell? ⟨gb269, 0, none⟩ = some (.int .u8 a0_0) ∧ w'.cell? ⟨gb269, 1, none⟩ = some (.string a0_1) ∧ w'.cell? ⟨gb269, 2, none⟩ = some (u270002) ∧ w'.cell? ⟨gb267, 0, none⟩ = some (.int .u8 a0_0) ∧ w'.cell? ⟨gb267, 1, none⟩ = some (.string a0_1) ∧ w'.cell? ⟨gb267, 2, none⟩ = some (.slice (some ad270) l0_2.length c0_2) ∧ w'.cell? (ad270.add ((x4_1).toNat * 2)) = some (.string ((rd_T56 l0_2 x4_1).f0)) ∧ w'.cell? ⟨(ad270.add ((x4_1).toNat * 2)).block, (ad270.add ((x4_1).toNat * 2)).off + 1, none⟩ = some (.string ((rd_T56 l0_2 x4_1).f1))) (ds := [10]) #[false, false, false, false, false, false, false, false, false, false, false] (by kernel_rfl) rfl rfl ⟨(blk_cell BK269.out 0).trans rfl, (blk_cell BK269.out 1).trans rfl, (blk_cell BK269.out 2).trans rfl, (blk_cell BK267.out 0).trans rfl, (blk_cell BK267.out 1).trans rfl, (blk_cell BK267.out 2).trans rfl, ((HB.out.cell (World.block_lt_of_cell? w _ hw270_0)).trans hw270_0), ((HB.out.cell (World.block_lt_of_cell? w _ hw270_1)).trans hw270_1)⟩ (fun hHeld => ?_); refine with_tabW mailroomlaw07_told.tab5 mailroomlaw07_told.bits5 (fun HT_ HW_ => ?_)
      generalize wr.drew = w16 at HO_270002 BK267 BK268 BK269 HB hx270_0 hx270_1 hHeld ⊢
      refine pure_ (i := 0) (N := some 17) (v := ?_) (a' := ?_) #[true, false, false, false, false, false, false, false, false, false, false] rfl rfl (any_of HT_.out (by kernel_rfl)) (fun _ _ _ h => h) (Or.inl ⟨by rfl, ?_⟩) ?_ ?_
      rotate_left
      ·intro w'
       go_simp
       with_reducible rfl
      rotate_left
      ·simp only [Act.put, List.setIfInBounds_toArray, List.set_cons_zero, List.set_cons_succ, i64_w, i32_w]
       rfl
      refine pure_ (i := 2) (N := some 19) (v := ?_) (a' := ?_) #[true, false, true, false, false, false, false, false, false, false, false] rfl rfl (any_of HT_.out (by kernel_rfl)) (fun _ _ _ h => h) (Or.inl ⟨by rfl, ?_⟩) ?_ ?_
      rotate_left
      ·intro w'
       go_simp
       with_reducible rfl
      rotate_left
      ·simp only [Act.put, List.setIfInBounds_toArray, List.set_cons_zero, List.set_cons_succ, i64_w, i32_w]
       rfl
      refine pure_ (i := 4) (N := some 21) (v := ?_) (a' := ?_) #[true, false, true, false, true, false, false, false, false, false, false] rfl rfl (any_of HT_.out (by kernel_rfl)) (fun _ _ _ h => h) (Or.inl ⟨by rfl, ?_⟩) ?_ ?_
      rotate_left
      ·intro w'
       go_simp
       with_reducible rfl
      rotate_left
      ·simp only [Act.put, List.setIfInBounds_toArray, List.set_cons_zero, List.set_cons_succ, i64_w, i32_w]
       rfl
      refine take_ (i := 1) (N := some 18) (v := ?_) (a' := ?_) #[true, true, true, false, true, false, false, false, false, false, false] rfl rfl (take_ofW HT_.out HW_.out (by kernel_rfl)) (fun _ _ _ h => h) (Or.inl ⟨by rfl, ?_⟩) hHeld ?_ ?_
      rotate_left
      ·rintro w' ⟨s0, s1, s2, s3, s4, s5, s6, s7⟩
       go_simp
       with_reducible rfl
      rotate_left
      ·simp only [Act.put, List.setIfInBounds_toArray, List.set_cons_zero, List.set_cons_succ, i64_w, i32_w]
       rfl
      refine take_ (i := 3) (N := some 20) (v := ?_) (a' := ?_) #[true, true, true, true, true, false, false, false, false, false, false] rfl rfl (take_ofW HT_.out HW_.out (by kernel_rfl)) (fun _ _ _ h => h) (Or.inl ⟨by rfl, ?_⟩) hHeld ?_ ?_
      rotate_left
      ·rintro w' ⟨s0, s1, s2, s3, s4, s5, s6, s7⟩
       go_simp
       with_reducible rfl
      rotate_left
      ·simp only [Act.put, List.setIfInBounds_toArray, List.set_cons_zero, List.set_cons_succ, i64_w, i32_w]
       rfl
      refine pure_ (i := 5) (N := some 22) (v := ?_) (a' := ?_) #[true, true, true, true, true, true, false, false, false, false, false] rfl rfl (any_of HT_.out (by kernel_rfl)) (fun _ _ _ h => h) (Or.inl ⟨by rfl, ?_⟩) ?_ ?_
      rotate_left
      ·intro w'
       go_simp
       with_reducible rfl
      rotate_left
      ·simp only [Act.put, List.setIfInBounds_toArray, List.set_cons_zero, List.set_cons_succ, i64_w, i32_w]
       rfl
      refine take_ (i := 6) (N := some 23) (v := ?_) (a' := ?_) #[true, true, true, true, true, true, true, false, false, false, false] rfl rfl (take_ofW HT_.out HW_.out (by kernel_rfl)) (fun _ _ _ h => h) (Or.inl ⟨by rfl, ?_⟩) hHeld ?_ ?_
      rotate_left
      ·rintro w' ⟨s0, s1, s2, s3, s4, s5, s6, s7⟩
       go_simp
       with_reducible rfl
      rotate_left
      ·simp only [Act.put, List.setIfInBounds_toArray, List.set_cons_zero, List.set_cons_succ, i64_w, i32_w]
       rfl
      refine one_ (i := 7) (N := some 24) #[true, true, true, true, true, true, true, true, false, false, false] rfl rfl (one_of HT_.out (by kernel_rfl)) (by decide) (fun K hK => ?_)
      refine value_ (w1 := ?_) (v := ?_) (by rfl) rfl ?_ ?_
      rotate_left 2
      ·go_simp
       constructor
       ·rfl
       ·rfl
      refine hK.out _ _ ⟨(blk_cell (blk_alloc BK269.out _) 0).trans rfl, (blk_cell (blk_alloc BK269.out _) 1).trans rfl, (blk_cell (blk_alloc BK269.out _) 2).trans rfl, (blk_cell (blk_alloc BK267.out _) 0).trans rfl, (blk_cell (blk_alloc BK267.out _) 1).trans rfl, (blk_cell (blk_alloc BK267.out _) 2).trans rfl, (World.cell?_alloc_lt _ _ _ (World.block_lt_of_cell? _ _ (((HB.out.cell (World.block_lt_of_cell? w _ hw270_0)).trans hw270_0)))).trans (((HB.out.cell (World.block_lt_of_cell? w _ hw270_0)).trans hw270_0)), (World.cell?_alloc_lt _ _ _ (World.block_lt_of_cell? _ _ (((HB.out.cell (World.block_lt_of_cell? w _ hw270_1)).trans hw270_1)))).trans (((HB.out.cell (World.block_lt_of_cell? w _ hw270_1)).trans hw270_1))⟩ (fun hHeld => ?_)
      clear hK K
      refine norm_ (a' := ?_) ?_ ?_
      rotate_left
      ·show Act.put _ (some 24) _ = _
       simp only [Act.put, List.setIfInBounds_toArray, List.set_cons_zero, List.set_cons_succ, i64_w, i32_w]
       rfl
      refine one_ (i := 8) (N := some 25) #[true, true, true, true, true, true, true, true, true, false, false] rfl rfl (one_of HT_.out (by kernel_rfl)) (by decide) (fun K hK => ?_)
      refine Kd.R_append_step k67 (w0 := w) w.heap.size (by rfl) (.tmp 18) (.tmp 24) 31 67 (.agg #[(.string ⟨#[]⟩), (.string ⟨#[]⟩)]) 32 rfl Tryz.underlying31 info67 rfl (by decide) (by omega) u270002 x270002_1 (⟨(rd_T56 l0_2 x4_1).f0, (rd_T56 l0_2 x4_1).f1⟩ : S67) [.string ((rd_T56 l0_2 x4_1).f0), .string ((rd_T56 l0_2 x4_1).f1)] (fun _ => True) (fun _ => False) rfl rfl ?aP (fun _ hk => hk.elim) ?aF ?aO ?aB ?aS ?aL ?_
      (case aP => exact k67_mkM _ _ _ (⟨(rd_T56 l0_2 x4_1).f0, (rd_T56 l0_2 x4_1).f1⟩ : S67))
      (case aB => exact (by repeat (first | (with_reducible first | exact HB.out | apply below_alloc | apply pw_below_drewN | apply below_drew1 | refine below_set ?_ GE267.out | refine below_set ?_ GE268.out | refine below_set ?_ GE269.out) | exact HB.out)))
      (case aF => exact (fun _ _ => trivial))
      (case aO => exact (by (with_reducible repeat (first | apply Kd.R_alloc | apply Kd.R_drewN | apply Kd.R_drew)); exact HO_270002.out))
      (case aS => exact (below_size (by repeat (first | (with_reducible first | exact HB.out | apply below_alloc | apply pw_below_drewN | apply below_drew1 | refine below_set ?_ GE267.out | refine below_set ?_ GE268.out | refine below_set ?_ GE269.out) | exact HB.out))))
      (case aL => have := LMc12.out; omega)
      intro v272 w17 ho hb hg hat
      rw [← Ny271.out] at ho
      have n0_ := Aside0.mk (blk_grown (g := gb267) (o := .cells #[.int .u8 a0_0, .string a0_1, .slice (some ad270) l0_2.length c0_2] 27 (0, 0)) (by (with_reducible repeat (first | refine blk_drewN ?_ _ | refine blk_drew ?_ | refine blk_alloc ?_ _)); exact BK267.out) hg (Kd.R_ne HO_270002.out BK267.out (by decide)))
      have n1_ := Aside0.mk (blk_grown (g := gb268) (o := .cells #[.int .u8 0, .string (⟨#[]⟩ : ByteArray), .slice none 0 0] 33 (0, 0)) (by (with_reducible repeat (first | refine blk_drewN ?_ _ | refine blk_drew ?_ | refine blk_alloc ?_ _)); exact BK268.out) hg (Kd.R_ne HO_270002.out BK268.out (by decide)))
      have n2_ := Aside0.mk (blk_grown (g := gb269) (o := .cells #[.int .u8 a0_0, .string a0_1, u270002] 33 (0, 0)) (by (with_reducible repeat (first | refine blk_drewN ?_ _ | refine blk_drew ?_ | refine blk_alloc ?_ _)); exact BK269.out) hg (Kd.R_ne HO_270002.out BK269.out (by decide)))
      have n3_ := Aside0.mk (hb)
      have n4_ := Aside0.mk (ho)
      clear BK267
      clear BK268
      clear BK269
      clear HB
      clear HO_270002
      have BK267 := n0_
      have BK268 := n1_
      have BK269 := n2_
      have HB := n3_
      have HO273 := n4_
      clear n0_ n1_ n2_ n3_ n4_
      clear ho hb hg hat
      obtain ⟨Ao18, co18, eo18⟩ := Kd.R_slice HO273.out
      (first | subst eo18 | (injection eo18 with f1_ f2_ f3_; have f4_ := f1_.symm; have f5_ := f3_.symm; clear f1_ f2_ f3_; subst f4_; subst f5_))
      refine hK.out _ _ ⟨(blk_cell BK269.out 0).trans rfl, (blk_cell BK269.out 1).trans rfl, (blk_cell BK269.out 2).trans rfl, (blk_cell BK267.out 0).trans rfl, (blk_cell BK267.out 1).trans rfl, (blk_cell BK267.out 2).trans rfl, ((HB.out.cell (World.block_lt_of_cell? w _ hw270_0)).trans hw270_0), ((HB.out.cell (World.block_lt_of_cell? w _ hw270_1)).trans hw270_1)⟩ (fun hHeld => ?_)
      clear hK K
      refine norm_ (a' := ?_) ?_ ?_
      rotate_left
      ·show Act.put _ (some 25) _ = _
       simp only [Act.put, List.setIfInBounds_toArray, List.set_cons_zero, List.set_cons_succ, i64_w, i32_w]
       rfl
      refine pure_ (i := 9) (N := some 26) (v := ?_) (a' := ?_) #[true, true, true, true, true, true, true, true, true, true, false] rfl rfl (any_of HT_.out (by kernel_rfl)) (fun _ _ _ h => h) (Or.inl ⟨by rfl, ?_⟩) ?_ ?_
      rotate_left
      ·intro w'
       go_simp
       with_reducible rfl
      rotate_left
      ·simp only [Act.put, List.setIfInBounds_toArray, List.set_cons_zero, List.set_cons_succ, i64_w, i32_w]
       rfl
      refine last_ (i := 10) (N := none) #[true, true, true, true, true, true, true, true, true, true, true] rfl rfl (one_of HT_.out (by kernel_rfl)) (by decide) (fun K hK => ?_)
      have hs19 : w17.cell? ⟨gb269, 2, none⟩ = some (u270002) := (blk_cell BK269.out 2).trans rfl
      have hfs19 := blk_frozen BK269.out 2
      have hns19_0 := NB267_269.out
      have hns19_1 := NB268_269.out
      have hms19_0 := NB269_267.out
      have hms19_1 := NB269_268.out
      refine skip_ (w1 := ?_) (by rfl) rfl ?_ ?_
      rotate_left
      ·go_simp
       rfl
      refine hK.out _ _ ?_
      clear hK K
      refine done_ (done_of HT_.out (by kernel_rfl)) ?_
      try go_wp2
      go_roundg k1
      case measure => have := HK1.out; omega
      case rel => exact ⟨(wrap64 (x4_1 + 1)), (y271), (.slice Ao18 y271.length co18), (by first | rfl | (simp; done) | (simp [*]; done)), H', ⟨by have := HK1.out; omega⟩, ⟨by (with_reducible repeat (first | apply Kd.R_alloc | apply Kd.R_drewN | apply Kd.R_drew)); exact Kd.R_mono (Kd.R_far (p := ⟨gb269, 2, none⟩) (Kd.R_types HO273.out BK269.out (by decide)) (fun _ hk => hk.2) (.slice Ao18 y271.length co18)) (fun _ hk => trivial)⟩, ⟨by (with_reducible repeat (first | refine blk_drewN ?_ _ | refine blk_drew ?_ | refine blk_alloc ?_ _)); refine blk_far ?_ NB267_269.out _; (with_reducible repeat (first | refine blk_drewN ?_ _ | refine blk_drew ?_ | refine blk_alloc ?_ _)); exact BK267.out⟩, ⟨by (with_reducible repeat (first | refine blk_drewN ?_ _ | refine blk_drew ?_ | refine blk_alloc ?_ _)); refine blk_far ?_ NB268_269.out _; (with_reducible repeat (first | refine blk_drewN ?_ _ | refine blk_drew ?_ | refine blk_alloc ?_ _)); exact BK268.out⟩, ⟨by (with_reducible repeat (first | refine blk_drewN ?_ _ | refine blk_drew ?_ | refine blk_alloc ?_ _)); refine blk_put (cs := #[.int .u8 a0_0, .string a0_1, u270002]) ?_ 2 _ rfl; (with_reducible repeat (first | refine blk_drewN ?_ _ | refine blk_drew ?_ | refine blk_alloc ?_ _)); exact BK269.out⟩, ⟨by repeat (first | (with_reducible first | exact HB.out | apply below_alloc | apply pw_below_drewN | apply below_drew1 | refine below_set ?_ GE267.out | refine below_set ?_ GE268.out | refine below_set ?_ GE269.out) | exact HB.out)⟩⟩
     ·rw [if_neg c12] at H
      exact absurd H (by simp)
    ·rw [if_neg c11] at H
     exact absurd H (by simp)
   ·rw [if_neg c10] at H
    have c10b0 : decide (x4_1 < (l0_2.length : Int)) = false := decide_eq_false c10
    clear c10
    simp only [Option.some.injEq, Prod.mk.injEq] at H
    obtain ⟨rfl, rfl, rfl⟩ := H
    have hnb20 := NB267_268.out
    have hnc20 := NB268_267.out
    have hnb21 := NB267_269.out
    have hnc21 := NB269_267.out
    have hcz22_0 : wr.cell? ⟨gb267, 0, none⟩ = some (.int .u8 a0_0) := (blk_cell BK267.out 0).trans rfl
    have hcz22_1 : wr.cell? ⟨gb267, 1, none⟩ = some (.string a0_1) := (blk_cell BK267.out 1).trans rfl
    have hcz22_2 : wr.cell? ⟨gb267, 2, none⟩ = some (.slice A0_2 l0_2.length c0_2) := (blk_cell BK267.out 2).trans rfl
    have hfz22_0 := blk_frozen BK267.out 0
    have hfz22_1 := blk_frozen BK267.out 1
    have hfz22_2 := blk_frozen BK267.out 2
    have hnb23 := NB269_268.out
    have hnc23 := NB268_269.out
    have hcz24_0 : wr.cell? ⟨gb269, 0, none⟩ = some (.int .u8 a0_0) := (blk_cell BK269.out 0).trans rfl
    have hcz24_1 : wr.cell? ⟨gb269, 1, none⟩ = some (.string a0_1) := (blk_cell BK269.out 1).trans rfl
    have hcz24_2 : wr.cell? ⟨gb269, 2, none⟩ = some (u270002) := (blk_cell BK269.out 2).trans rfl
    have hfz24_0 := blk_frozen BK269.out 0
    have hfz24_1 := blk_frozen BK269.out 1
    have hfz24_2 := blk_frozen BK269.out 2
    have hcz25_0 : wr.cell? ⟨gb268, 0, none⟩ = some (.int .u8 0) := (blk_cell BK268.out 0).trans rfl
    have hcz25_1 : wr.cell? ⟨gb268, 1, none⟩ = some (.string (⟨#[]⟩ : ByteArray)) := (blk_cell BK268.out 1).trans rfl
    have hcz25_2 : wr.cell? ⟨gb268, 2, none⟩ = some (.slice none 0 0) := (blk_cell BK268.out 2).trans rfl
    have hfz25_0 := blk_frozen BK268.out 0
    have hfz25_1 := blk_frozen BK268.out 1
    have hfz25_2 := blk_frozen BK268.out 2
    obtain ⟨Ao26, co26, eo26⟩ := Kd.R_slice HO_270002.out
    subst eo26
    go_wp2
    refine bodyPost_ret (results_cell_row rfl _ _ gb268 33 #[.int .u8 a0_0, .string a0_1, .slice Ao26 x270002_1.length co26] (0, 0) _ rfl (by (with_reducible repeat (first | refine blk_drewN ?_ _ | refine blk_drew ?_ | refine blk_alloc ?_ _)); refine blk_put (cs := #[.int .u8 a0_0, .string a0_1, .slice none 0 0]) ?_ 2 _ rfl; (with_reducible repeat (first | refine blk_drewN ?_ _ | refine blk_drew ?_ | refine blk_alloc ?_ _)); refine blk_put (cs := #[.int .u8 a0_0, .string (⟨#[]⟩ : ByteArray), .slice none 0 0]) ?_ 1 _ rfl; (with_reducible repeat (first | refine blk_drewN ?_ _ | refine blk_drew ?_ | refine blk_alloc ?_ _)); refine blk_put (cs := #[.int .u8 0, .string (⟨#[]⟩ : ByteArray), .slice none 0 0]) ?_ 0 _ rfl; (with_reducible repeat (first | refine blk_drewN ?_ _ | refine blk_drew ?_ | refine blk_alloc ?_ _)); exact BK268.out) Tryz.underlying33 rfl (by kernel_rfl)) rfl ?_
    exact ⟨_, by first | rfl | (simp [errW_none, errW_some] <;> rfl) | (simp [*, errW_none, errW_some] <;> rfl), by (with_reducible repeat (first | apply Kd.R_alloc | apply Kd.R_drewN | apply Kd.R_drew)); exact Kd.R_mono (Kd.R_far (p := ⟨gb268, 2, none⟩) (Kd.R_far (p := ⟨gb268, 1, none⟩) (Kd.R_far (p := ⟨gb268, 0, none⟩) (Kd.R_types HO_270002.out BK268.out (by decide)) (fun _ hk => hk.2) (.int .u8 a0_0)) (fun _ hk => hk.2) (.string a0_1)) (fun _ hk => hk.2) (.slice Ao26 x270002_1.length co26)) (fun _ hk => trivial), by repeat (first | (with_reducible first | exact HB.out | apply below_alloc | apply pw_below_drewN | apply below_drew1 | refine below_set ?_ GE267.out | refine below_set ?_ GE268.out | refine below_set ?_ GE269.out) | exact HB.out)⟩
end Go.Proofs.YtljkopbalejcgaaGreatDoor.P
end
section
namespace Go.Proofs.YtljkopbalejcgaaGreatDoor.P
open Go.RowKit Go.Proofs.YtljkopbalejcgaaGreatDoorW.PrintWords Go.Proofs.YtljkopbalejcgaaGreatDoorW.PrintLast Go.Proofs.YtljkopbalejcgaaGreatDoorW.PrintMore
attribute [local go_sem] max2_int min2_int max_two min_two max_three min_three max_four min_four
set_option linter.unusedVariables false
set_option linter.unusedSimpArgs false
theorem eqA67 (d : Nat) (w : World) (x0 y0 : ByteArray) (x1 y1 : ByteArray) :
  (Op.equalIn (d + 2) 67 (.agg #[.string x0, .string x1]) (.agg #[.string y0, .string y1])).run Tryz.prog w = .ok (x0.toList == y0.toList && (x1.toList == y1.toList)) w := by
 refine eqA_of Tryz.underlying67 (by kernel_rfl) ?_
 refine eqf_cons (by rfl) (by go_simp; rfl) (by go_simp; rfl) (by go_simp) ?_
 exact eqf_last (by rfl) (by go_simp; rfl) (by go_simp; rfl) (by go_simp)
end Go.Proofs.YtljkopbalejcgaaGreatDoor.P
end
section
namespace Go.Proofs.YtljkopbalejcgaaGreatDoor.P
open Go.RowKit Go.Proofs.YtljkopbalejcgaaGreatDoorW.PrintWords Go.Proofs.YtljkopbalejcgaaGreatDoorW.PrintLast Go.Proofs.YtljkopbalejcgaaGreatDoorW.PrintMore
attribute [local go_sem] max2_int min2_int max_two min_two max_three min_three max_four min_four
set_option linter.unusedVariables false
set_option linter.unusedSimpArgs false
attribute [local go_sem high] eqA67
mutual
def mailroomref07_Same.j0 : Nat → Bool → Int → ByteArray → List (S67) → Int → ByteArray → List (S67) → Option (Bool)
 | 0, _, _, _, _, _, _, _ => none
 | k + 1, x26, x264000, x264001, x264002, x265000, x265001, x265002 => if x26 = true then (some false) else (mailroomref07_Same.l0 k 0 x264000 x264001 x264002 x265000 x265001 x265002)
def mailroomref07_Same.l0 : Nat → Int → Int → ByteArray → List (S67) → Int → ByteArray → List (S67) → Option (Bool)
 | 0, _, _, _, _, _, _, _ => none
 | k + 1, x5, x264000, x264001, x264002, x265000, x265001, x265002 => if x5 < (x264002.length : Int) then (if 0 ≤ x5 then (if x5 < (x265002.length : Int) then (if (!((((rd_T67 x264002 x5).f0).toList) == (((rd_T67 x265002 x5).f0).toList)) || (!((((rd_T67 x264002 x5).f1).toList) == (((rd_T67 x265002 x5).f1).toList)))) = true then (some false) else (mailroomref07_Same.l0 k (wrap64 (x5 + 1)) x264000 x264001 x264002 x265000 x265001 x265002)) else (none)) else (none)) else (some true)
end
def mailroomref07_Same.f (k : Nat) (a0_0 : Int) (a0_1 : ByteArray) (l0_2 : List (S67)) (a1_0 : Int) (a1_1 : ByteArray) (l1_2 : List (S67)) : Option (Bool) := if a0_0 = a1_0 then (if a0_1.toList = a1_1.toList then (mailroomref07_Same.j0 k ((l0_2.length : Int) != (l1_2.length : Int)) a0_0 a0_1 l0_2 a1_0 a1_1 l1_2) else (mailroomref07_Same.j0 k true a0_0 a0_1 l0_2 a1_0 a1_1 l1_2)) else (mailroomref07_Same.j0 k true a0_0 a0_1 l0_2 a1_0 a1_1 l1_2)
theorem mailroomref07_Same.mono_l : ∀ k, (∀ y0 y1 y2 y3 y4 y5 y6, LeO (mailroomref07_Same.j0 k y0 y1 y2 y3 y4 y5 y6) (mailroomref07_Same.j0 (k + 1) y0 y1 y2 y3 y4 y5 y6)) ∧ (∀ y0 y1 y2 y3 y4 y5 y6, LeO (mailroomref07_Same.l0 k y0 y1 y2 y3 y4 y5 y6) (mailroomref07_Same.l0 (k + 1) y0 y1 y2 y3 y4 y5 y6))
 | 0 => ⟨fun _ _ _ _ _ _ _ r h => by simp [mailroomref07_Same.j0] at h, fun _ _ _ _ _ _ _ r h => by simp [mailroomref07_Same.l0] at h⟩
 | k + 1 => by
  obtain ⟨ih0, ih1⟩ := mailroomref07_Same.mono_l k
  refine ⟨?_, ?_⟩
  ·intro y0 y1 y2 y3 y4 y5 y6
   unfold mailroomref07_Same.j0
   repeat' first
   | (with_reducible exact ih0 _ _ _ _ _ _ _)
   | (with_reducible exact ih1 _ _ _ _ _ _ _)
   | (with_reducible exact LeO.refl _)
   | (with_reducible exact LeO.none _)
   | (with_reducible refine LeO.ite ?_ ?_)
   | (with_reducible refine LeO.bind ?_ (fun _ => ?_))
   | exact ih0 _ _ _ _ _ _ _
   | exact ih1 _ _ _ _ _ _ _
   | exact LeO.none _
   | refine LeO.ite ?_ ?_
   | refine LeO.bind ?_ (fun _ => ?_)
  ·intro y0 y1 y2 y3 y4 y5 y6
   unfold mailroomref07_Same.l0
   repeat' first
   | (with_reducible exact ih0 _ _ _ _ _ _ _)
   | (with_reducible exact ih1 _ _ _ _ _ _ _)
   | (with_reducible exact LeO.refl _)
   | (with_reducible exact LeO.none _)
   | (with_reducible refine LeO.ite ?_ ?_)
   | (with_reducible refine LeO.bind ?_ (fun _ => ?_))
   | exact ih0 _ _ _ _ _ _ _
   | exact ih1 _ _ _ _ _ _ _
   | exact LeO.none _
   | refine LeO.ite ?_ ?_
   | refine LeO.bind ?_ (fun _ => ?_)
theorem mailroomref07_Same.mono : ∀ a0 a1 a2 a3 a4 a5 k, LeO (mailroomref07_Same.f k a0 a1 a2 a3 a4 a5) (mailroomref07_Same.f (k + 1) a0 a1 a2 a3 a4 a5) := by
 intro a0 a1 a2 a3 a4 a5 k
 obtain ⟨ih0, ih1⟩ := mailroomref07_Same.mono_l k
 unfold mailroomref07_Same.f
 repeat' first
   | (with_reducible exact ih0 _ _ _ _ _ _ _)
   | (with_reducible exact ih1 _ _ _ _ _ _ _)
   | (with_reducible exact LeO.refl _)
   | (with_reducible exact LeO.none _)
   | (with_reducible refine LeO.ite ?_ ?_)
   | (with_reducible refine LeO.bind ?_ (fun _ => ?_))
   | exact ih0 _ _ _ _ _ _ _
   | exact ih1 _ _ _ _ _ _ _
   | exact LeO.none _
   | refine LeO.ite ?_ ?_
   | refine LeO.bind ?_ (fun _ => ?_)
set_option maxHeartbeats 8000000 in
set_option maxRecDepth 100000 in
theorem mailroomref07_Same.calls (k : Nat) (a0_0 : Int) (a0_1 : ByteArray) (A0_2 : Option Addr) (c0_2 : Nat) (l0_2 : List (S67)) (a1_0 : Int) (a1_1 : ByteArray) (A1_2 : Option Addr) (c1_2 : Nat) (l1_2 : List (S67)) (r : Bool) (w : World) (hr0_2 : Kd.C k67 w A0_2 l0_2.length l0_2) (hc0_2 : l0_2.length ≤ c0_2) (hr1_2 : Kd.C k67 w A1_2 l1_2.length l1_2) (hc1_2 : l1_2.length ≤ c1_2) (h : mailroomref07_Same.f k a0_0 a0_1 l0_2 a1_0 a1_1 l1_2 = some r) :
  Calls Tryz.prog 10 #[.agg #[.int .u8 a0_0, .string a0_1, .slice A0_2 l0_2.length c0_2], .agg #[.int .u8 a1_0, .string a1_1, .slice A1_2 l1_2.length c1_2]] w fun e w' => e = .returned (.bool r) ∧ Below w.heap.size w w' := by
 have hu33 := Tryz.underlying33
 have hu67 := Tryz.underlying67
 have HR0_2 := Aside0.mk hr0_2
 have HC0_2 := Aside0.mk hc0_2
 clear hr0_2 hc0_2
 have HR1_2 := Aside0.mk hr1_2
 have HC1_2 := Aside0.mk hc1_2
 clear hr1_2 hc1_2
 have HB := Aside0.mk (Below.refl w.heap.size w)
 have H : (if a0_0 = a1_0 then (if a0_1.toList = a1_1.toList then (mailroomref07_Same.j0 k ((l0_2.length : Int) != (l1_2.length : Int)) a0_0 a0_1 l0_2 a1_0 a1_1 l1_2) else (mailroomref07_Same.j0 k true a0_0 a0_1 l0_2 a1_0 a1_1 l1_2)) else (mailroomref07_Same.j0 k true a0_0 a0_1 l0_2 a1_0 a1_1 l1_2)) = some r := h
 clear h
 have HC3 := Aside0.mk H
 clear H
 go_enter Tryz.func10, Tryz.ntmps10
 go_upto_region 1 with (first | ((with_reducible refine gate_dst (N := 2) rfl ?_); (try (refine gate_guard (by rfl) ?_; dsimp only)); refine box_event ?hg (N := 2) ?hd (cs := #[.int .u8 a0_0, .string a0_1, .slice A0_2 l0_2.length c0_2]) (t := 33) ?hr ?_; (case hd => rfl); (case hg => rfl); (case hr => first | (go_simp; done) | (go_simp; rfl)); intro gb263 hg w4 hbox hb; have n0_ := Aside0.mk (below_step (by repeat (first | (with_reducible first | exact HB.out | apply below_alloc | apply pw_below_drewN | apply below_drew1) | exact HB.out)) hb); have n1_ := Aside0.mk (hbox); have n2_ := Aside0.mk ((by rw [hg]; exact (below_size (by repeat (first | (with_reducible first | exact HB.out | apply below_alloc | apply pw_below_drewN | apply below_drew1) | exact HB.out))) : w.heap.size ≤ gb263)); have n3_ := Aside0.mk ((by rw [hg]; exact (below_size (by repeat (first | (with_reducible first | exact HB.out | apply below_alloc | apply pw_below_drewN | apply below_drew1) | exact HB.out))) : w.heap.size ≤ gb263)); clear HB; have HB := n0_; have BK263 := n1_; have GW263 := n2_; have GE263 := n3_; clear n0_ n1_ n2_ n3_; clear hb hbox hg) | ((with_reducible refine gate_dst (N := 3) rfl ?_); (try (refine gate_guard (by rfl) ?_; dsimp only)); refine box_event ?hg (N := 3) ?hd (cs := #[.int .u8 a1_0, .string a1_1, .slice A1_2 l1_2.length c1_2]) (t := 33) ?hr ?_; (case hd => rfl); (case hg => rfl); (case hr => first | (go_simp; done) | (go_simp; rfl)); intro gb264 hg w5 hbox hb; have n0_ := Aside0.mk (blk_below (g := gb263) (o := .cells #[.int .u8 a0_0, .string a0_1, .slice A0_2 l0_2.length c0_2] 33 (0, 0)) (by (with_reducible repeat (first | refine blk_drewN ?_ _ | refine blk_drew ?_ | refine blk_alloc ?_ _)); exact BK263.out) hb); have n1_ := Aside0.mk (below_step (by repeat (first | (with_reducible first | exact HB.out | apply below_alloc | apply pw_below_drewN | apply below_drew1 | refine below_set ?_ GE263.out) | exact HB.out)) hb); have n2_ := Aside0.mk (hbox); have n3_ := Aside0.mk ((by rw [hg]; exact (below_size (by repeat (first | (with_reducible first | exact HB.out | apply below_alloc | apply pw_below_drewN | apply below_drew1 | refine below_set ?_ GE263.out) | exact HB.out))) : w.heap.size ≤ gb264)); have n4_ := Aside0.mk ((by rw [hg]; exact (below_size (by repeat (first | (with_reducible first | exact HB.out | apply below_alloc | apply pw_below_drewN | apply below_drew1 | refine below_set ?_ GE263.out) | exact HB.out))) : w.heap.size ≤ gb264)); have n5_ := Aside0.mk ((by rw [hg]; exact Nat.ne_of_lt (blk_lt (g := gb263) (o := .cells #[.int .u8 a0_0, .string a0_1, .slice A0_2 l0_2.length c0_2] 33 (0, 0)) (by (with_reducible repeat (first | refine blk_drewN ?_ _ | refine blk_drew ?_ | refine blk_alloc ?_ _)); exact BK263.out)) : gb263 ≠ gb264)); have n6_ := Aside0.mk ((by rw [hg]; exact Nat.ne_of_gt (blk_lt (g := gb263) (o := .cells #[.int .u8 a0_0, .string a0_1, .slice A0_2 l0_2.length c0_2] 33 (0, 0)) (by (with_reducible repeat (first | refine blk_drewN ?_ _ | refine blk_drew ?_ | refine blk_alloc ?_ _)); exact BK263.out)) : gb264 ≠ gb263)); clear BK263; clear HB; have BK263 := n0_; have HB := n1_; have BK264 := n2_; have GW264 := n3_; have GE264 := n4_; have NB263_264 := n5_; have NB264_263 := n6_; clear n0_ n1_ n2_ n3_ n4_ n5_ n6_; clear hb hbox hg))
 repeat (go_quiet (first | ((with_reducible refine gate_dst (N := 2) rfl ?_); (try (refine gate_guard (by rfl) ?_; dsimp only)); refine box_event ?hg (N := 2) ?hd (cs := #[.int .u8 a0_0, .string a0_1, .slice A0_2 l0_2.length c0_2]) (t := 33) ?hr ?_; (case hd => rfl); (case hg => rfl); (case hr => first | (go_simp; done) | (go_simp; rfl)); intro gb263 hg w4 hbox hb; have n0_ := Aside0.mk (below_step (by repeat (first | (with_reducible first | exact HB.out | apply below_alloc | apply pw_below_drewN | apply below_drew1) | exact HB.out)) hb); have n1_ := Aside0.mk (hbox); have n2_ := Aside0.mk ((by rw [hg]; exact (below_size (by repeat (first | (with_reducible first | exact HB.out | apply below_alloc | apply pw_below_drewN | apply below_drew1) | exact HB.out))) : w.heap.size ≤ gb263)); have n3_ := Aside0.mk ((by rw [hg]; exact (below_size (by repeat (first | (with_reducible first | exact HB.out | apply below_alloc | apply pw_below_drewN | apply below_drew1) | exact HB.out))) : w.heap.size ≤ gb263)); clear HB; have HB := n0_; have BK263 := n1_; have GW263 := n2_; have GE263 := n3_; clear n0_ n1_ n2_ n3_; clear hb hbox hg) | ((with_reducible refine gate_dst (N := 3) rfl ?_); (try (refine gate_guard (by rfl) ?_; dsimp only)); refine box_event ?hg (N := 3) ?hd (cs := #[.int .u8 a1_0, .string a1_1, .slice A1_2 l1_2.length c1_2]) (t := 33) ?hr ?_; (case hd => rfl); (case hg => rfl); (case hr => first | (go_simp; done) | (go_simp; rfl)); intro gb264 hg w5 hbox hb; have n0_ := Aside0.mk (blk_below (g := gb263) (o := .cells #[.int .u8 a0_0, .string a0_1, .slice A0_2 l0_2.length c0_2] 33 (0, 0)) (by (with_reducible repeat (first | refine blk_drewN ?_ _ | refine blk_drew ?_ | refine blk_alloc ?_ _)); exact BK263.out) hb); have n1_ := Aside0.mk (below_step (by repeat (first | (with_reducible first | exact HB.out | apply below_alloc | apply pw_below_drewN | apply below_drew1 | refine below_set ?_ GE263.out) | exact HB.out)) hb); have n2_ := Aside0.mk (hbox); have n3_ := Aside0.mk ((by rw [hg]; exact (below_size (by repeat (first | (with_reducible first | exact HB.out | apply below_alloc | apply pw_below_drewN | apply below_drew1 | refine below_set ?_ GE263.out) | exact HB.out))) : w.heap.size ≤ gb264)); have n4_ := Aside0.mk ((by rw [hg]; exact (below_size (by repeat (first | (with_reducible first | exact HB.out | apply below_alloc | apply pw_below_drewN | apply below_drew1 | refine below_set ?_ GE263.out) | exact HB.out))) : w.heap.size ≤ gb264)); have n5_ := Aside0.mk ((by rw [hg]; exact Nat.ne_of_lt (blk_lt (g := gb263) (o := .cells #[.int .u8 a0_0, .string a0_1, .slice A0_2 l0_2.length c0_2] 33 (0, 0)) (by (with_reducible repeat (first | refine blk_drewN ?_ _ | refine blk_drew ?_ | refine blk_alloc ?_ _)); exact BK263.out)) : gb263 ≠ gb264)); have n6_ := Aside0.mk ((by rw [hg]; exact Nat.ne_of_gt (blk_lt (g := gb263) (o := .cells #[.int .u8 a0_0, .string a0_1, .slice A0_2 l0_2.length c0_2] 33 (0, 0)) (by (with_reducible repeat (first | refine blk_drewN ?_ _ | refine blk_drew ?_ | refine blk_alloc ?_ _)); exact BK263.out)) : gb264 ≠ gb263)); clear BK263; clear HB; have BK263 := n0_; have HB := n1_; have BK264 := n2_; have GW264 := n3_; have GE264 := n4_; have NB263_264 := n5_; have NB264_263 := n6_; clear n0_ n1_ n2_ n3_ n4_ n5_ n6_; clear hb hbox hg)); go_upto_region 1 with (first | ((with_reducible refine gate_dst (N := 2) rfl ?_); (try (refine gate_guard (by rfl) ?_; dsimp only)); refine box_event ?hg (N := 2) ?hd (cs := #[.int .u8 a0_0, .string a0_1, .slice A0_2 l0_2.length c0_2]) (t := 33) ?hr ?_; (case hd => rfl); (case hg => rfl); (case hr => first | (go_simp; done) | (go_simp; rfl)); intro gb263 hg w4 hbox hb; have n0_ := Aside0.mk (below_step (by repeat (first | (with_reducible first | exact HB.out | apply below_alloc | apply pw_below_drewN | apply below_drew1) | exact HB.out)) hb); have n1_ := Aside0.mk (hbox); have n2_ := Aside0.mk ((by rw [hg]; exact (below_size (by repeat (first | (with_reducible first | exact HB.out | apply below_alloc | apply pw_below_drewN | apply below_drew1) | exact HB.out))) : w.heap.size ≤ gb263)); have n3_ := Aside0.mk ((by rw [hg]; exact (below_size (by repeat (first | (with_reducible first | exact HB.out | apply below_alloc | apply pw_below_drewN | apply below_drew1) | exact HB.out))) : w.heap.size ≤ gb263)); clear HB; have HB := n0_; have BK263 := n1_; have GW263 := n2_; have GE263 := n3_; clear n0_ n1_ n2_ n3_; clear hb hbox hg) | ((with_reducible refine gate_dst (N := 3) rfl ?_); (try (refine gate_guard (by rfl) ?_; dsimp only)); refine box_event ?hg (N := 3) ?hd (cs := #[.int .u8 a1_0, .string a1_1, .slice A1_2 l1_2.length c1_2]) (t := 33) ?hr ?_; (case hd => rfl); (case hg => rfl); (case hr => first | (go_simp; done) | (go_simp; rfl)); intro gb264 hg w5 hbox hb; have n0_ := Aside0.mk (blk_below (g := gb263) (o := .cells #[.int .u8 a0_0, .string a0_1, .slice A0_2 l0_2.length c0_2] 33 (0, 0)) (by (with_reducible repeat (first | refine blk_drewN ?_ _ | refine blk_drew ?_ | refine blk_alloc ?_ _)); exact BK263.out) hb); have n1_ := Aside0.mk (below_step (by repeat (first | (with_reducible first | exact HB.out | apply below_alloc | apply pw_below_drewN | apply below_drew1 | refine below_set ?_ GE263.out) | exact HB.out)) hb); have n2_ := Aside0.mk (hbox); have n3_ := Aside0.mk ((by rw [hg]; exact (below_size (by repeat (first | (with_reducible first | exact HB.out | apply below_alloc | apply pw_below_drewN | apply below_drew1 | refine below_set ?_ GE263.out) | exact HB.out))) : w.heap.size ≤ gb264)); have n4_ := Aside0.mk ((by rw [hg]; exact (below_size (by repeat (first | (with_reducible first | exact HB.out | apply below_alloc | apply pw_below_drewN | apply below_drew1 | refine below_set ?_ GE263.out) | exact HB.out))) : w.heap.size ≤ gb264)); have n5_ := Aside0.mk ((by rw [hg]; exact Nat.ne_of_lt (blk_lt (g := gb263) (o := .cells #[.int .u8 a0_0, .string a0_1, .slice A0_2 l0_2.length c0_2] 33 (0, 0)) (by (with_reducible repeat (first | refine blk_drewN ?_ _ | refine blk_drew ?_ | refine blk_alloc ?_ _)); exact BK263.out)) : gb263 ≠ gb264)); have n6_ := Aside0.mk ((by rw [hg]; exact Nat.ne_of_gt (blk_lt (g := gb263) (o := .cells #[.int .u8 a0_0, .string a0_1, .slice A0_2 l0_2.length c0_2] 33 (0, 0)) (by (with_reducible repeat (first | refine blk_drewN ?_ _ | refine blk_drew ?_ | refine blk_alloc ?_ _)); exact BK263.out)) : gb264 ≠ gb263)); clear BK263; clear HB; have BK263 := n0_; have HB := n1_; have BK264 := n2_; have GW264 := n3_; have GE264 := n4_; have NB263_264 := n5_; have NB264_263 := n6_; clear n0_ n1_ n2_ n3_ n4_ n5_ n6_; clear hb hbox hg)))
 (try simp only [Act.put, List.setIfInBounds_toArray, List.set_cons_zero, List.set_cons_succ])
 go_cut [26] (fun v26 wc => ∃ (kq : Nat) (x26_2 : Bool), v26 = .bool x26_2 ∧ Aside0 (mailroomref07_Same.j0 kq x26_2 a0_0 a0_1 l0_2 a1_0 a1_1 l1_2 = some r) ∧ Aside0 (kq ≤ k) ∧ Aside0 (wc.heap[gb263]? = some (.cells #[.int .u8 a0_0, .string a0_1, (.slice A0_2 l0_2.length c0_2)] 33 (0, 0))) ∧ Aside0 (wc.heap[gb264]? = some (.cells #[.int .u8 a1_0, .string a1_1, (.slice A1_2 l1_2.length c1_2)] 33 (0, 0))) ∧ Aside0 (Below w.heap.size w wc))
 case first =>
  have H := HC3.out
  clear HC3
  by_cases c6 : a0_0 = a1_0
  ·rw [if_pos c6] at H
   have c6b0 : (a0_0 == a1_0) = true := beq_iff_eq.mpr c6
   have c6b1 : (a0_0 != a1_0) = false := bne_eq_false_iff_eq.mpr c6
   clear c6
   (first | rw [c6b0] | (simp only [i64_w, i32_w]; rw [c6b0]) | skip)
   by_cases c7 : a0_1.toList = a1_1.toList
   ·rw [if_pos c7] at H
    have c7b0 : (a0_1.toList == a1_1.toList) = true := beq_iff_eq.mpr c7
    have c7b1 : (a0_1.toList != a1_1.toList) = false := bne_eq_false_iff_eq.mpr c7
    clear c7
    have H' := Aside0.mk H
    clear H
    have hnb8 := NB263_264.out
    have hnc8 := NB264_263.out
    have hcz9_0 : w5.cell? ⟨gb263, 0, none⟩ = some (.int .u8 a0_0) := (blk_cell BK263.out 0).trans rfl
    have hcz9_1 : w5.cell? ⟨gb263, 1, none⟩ = some (.string a0_1) := (blk_cell BK263.out 1).trans rfl
    have hcz9_2 : w5.cell? ⟨gb263, 2, none⟩ = some (.slice A0_2 l0_2.length c0_2) := (blk_cell BK263.out 2).trans rfl
    have hfz9_0 := blk_frozen BK263.out 0
    have hfz9_1 := blk_frozen BK263.out 1
    have hfz9_2 := blk_frozen BK263.out 2
    have hcz10_0 : w5.cell? ⟨gb264, 0, none⟩ = some (.int .u8 a1_0) := (blk_cell BK264.out 0).trans rfl
    have hcz10_1 : w5.cell? ⟨gb264, 1, none⟩ = some (.string a1_1) := (blk_cell BK264.out 1).trans rfl
    have hcz10_2 : w5.cell? ⟨gb264, 2, none⟩ = some (.slice A1_2 l1_2.length c1_2) := (blk_cell BK264.out 2).trans rfl
    have hfz10_0 := blk_frozen BK264.out 0
    have hfz10_1 := blk_frozen BK264.out 1
    have hfz10_2 := blk_frozen BK264.out 2
    go_wp2
    repeat (go_quiet (fail); try go_wp2)
    go_meet
    case rel => exact ⟨_, (((l0_2.length : Int) != (l1_2.length : Int))), (by first | rfl | (simp; done) | (simp [*]; done)), H', ⟨by first | omega | exact Nat.le_refl _⟩, ⟨by (with_reducible repeat (first | refine blk_drewN ?_ _ | refine blk_drew ?_ | refine blk_alloc ?_ _)); exact BK263.out⟩, ⟨by (with_reducible repeat (first | refine blk_drewN ?_ _ | refine blk_drew ?_ | refine blk_alloc ?_ _)); exact BK264.out⟩, ⟨by repeat (first | (with_reducible first | exact HB.out | apply below_alloc | apply pw_below_drewN | apply below_drew1 | refine below_set ?_ GE263.out | refine below_set ?_ GE264.out) | exact HB.out)⟩⟩
   ·rw [if_neg c7] at H
    have c7b0 : (a0_1.toList == a1_1.toList) = false := beq_eq_false_iff_ne.mpr c7
    have c7b1 : (a0_1.toList != a1_1.toList) = true := bne_iff_ne.mpr c7
    have H' := Aside0.mk H
    clear H
    have hnb11 := NB263_264.out
    have hnc11 := NB264_263.out
    have hcz12_0 : w5.cell? ⟨gb263, 0, none⟩ = some (.int .u8 a0_0) := (blk_cell BK263.out 0).trans rfl
    have hcz12_1 : w5.cell? ⟨gb263, 1, none⟩ = some (.string a0_1) := (blk_cell BK263.out 1).trans rfl
    have hcz12_2 : w5.cell? ⟨gb263, 2, none⟩ = some (.slice A0_2 l0_2.length c0_2) := (blk_cell BK263.out 2).trans rfl
    have hfz12_0 := blk_frozen BK263.out 0
    have hfz12_1 := blk_frozen BK263.out 1
    have hfz12_2 := blk_frozen BK263.out 2
    have hcz13_0 : w5.cell? ⟨gb264, 0, none⟩ = some (.int .u8 a1_0) := (blk_cell BK264.out 0).trans rfl
    have hcz13_1 : w5.cell? ⟨gb264, 1, none⟩ = some (.string a1_1) := (blk_cell BK264.out 1).trans rfl
    have hcz13_2 : w5.cell? ⟨gb264, 2, none⟩ = some (.slice A1_2 l1_2.length c1_2) := (blk_cell BK264.out 2).trans rfl
    have hfz13_0 := blk_frozen BK264.out 0
    have hfz13_1 := blk_frozen BK264.out 1
    have hfz13_2 := blk_frozen BK264.out 2
    go_wp2
    repeat (go_quiet (fail); try go_wp2)
    go_meet
    case rel => exact ⟨_, (true), (by first | rfl | (simp; done) | (simp [*]; done)), H', ⟨by first | omega | exact Nat.le_refl _⟩, ⟨by (with_reducible repeat (first | refine blk_drewN ?_ _ | refine blk_drew ?_ | refine blk_alloc ?_ _)); exact BK263.out⟩, ⟨by (with_reducible repeat (first | refine blk_drewN ?_ _ | refine blk_drew ?_ | refine blk_alloc ?_ _)); exact BK264.out⟩, ⟨by repeat (first | (with_reducible first | exact HB.out | apply below_alloc | apply pw_below_drewN | apply below_drew1 | refine below_set ?_ GE263.out | refine below_set ?_ GE264.out) | exact HB.out)⟩⟩
  ·rw [if_neg c6] at H
   have c6b0 : (a0_0 == a1_0) = false := beq_eq_false_iff_ne.mpr c6
   have c6b1 : (a0_0 != a1_0) = true := bne_iff_ne.mpr c6
   (first | rw [c6b0] | (simp only [i64_w, i32_w]; rw [c6b0]) | skip)
   have H' := Aside0.mk H
   clear H
   have hnb14 := NB263_264.out
   have hnc14 := NB264_263.out
   have hcz15_0 : w5.cell? ⟨gb263, 0, none⟩ = some (.int .u8 a0_0) := (blk_cell BK263.out 0).trans rfl
   have hcz15_1 : w5.cell? ⟨gb263, 1, none⟩ = some (.string a0_1) := (blk_cell BK263.out 1).trans rfl
   have hcz15_2 : w5.cell? ⟨gb263, 2, none⟩ = some (.slice A0_2 l0_2.length c0_2) := (blk_cell BK263.out 2).trans rfl
   have hfz15_0 := blk_frozen BK263.out 0
   have hfz15_1 := blk_frozen BK263.out 1
   have hfz15_2 := blk_frozen BK263.out 2
   have hcz16_0 : w5.cell? ⟨gb264, 0, none⟩ = some (.int .u8 a1_0) := (blk_cell BK264.out 0).trans rfl
   have hcz16_1 : w5.cell? ⟨gb264, 1, none⟩ = some (.string a1_1) := (blk_cell BK264.out 1).trans rfl
   have hcz16_2 : w5.cell? ⟨gb264, 2, none⟩ = some (.slice A1_2 l1_2.length c1_2) := (blk_cell BK264.out 2).trans rfl
   have hfz16_0 := blk_frozen BK264.out 0
   have hfz16_1 := blk_frozen BK264.out 1
   have hfz16_2 := blk_frozen BK264.out 2
   go_wp2
   repeat (go_quiet (fail); try go_wp2)
   go_meet
   case rel => exact ⟨_, (true), (by first | rfl | (simp; done) | (simp [*]; done)), H', ⟨by first | omega | exact Nat.le_refl _⟩, ⟨by (with_reducible repeat (first | refine blk_drewN ?_ _ | refine blk_drew ?_ | refine blk_alloc ?_ _)); exact BK263.out⟩, ⟨by (with_reducible repeat (first | refine blk_drewN ?_ _ | refine blk_drew ?_ | refine blk_alloc ?_ _)); exact BK264.out⟩, ⟨by repeat (first | (with_reducible first | exact HB.out | apply below_alloc | apply pw_below_drewN | apply below_drew1 | refine below_set ?_ GE263.out | refine below_set ?_ GE264.out) | exact HB.out)⟩⟩
 case rest =>
  clear HC3
  try clear c1
  try clear p2
  try clear c6
  try clear c6b0
  try clear c6b1
  try clear c7
  try clear c7b0
  try clear c7b1
  try clear c8
  try clear c10
  try clear c11
  try clear c14
  try clear hcz10_0
  try clear hcz10_1
  try clear hcz10_2
  try clear hcz12_0
  try clear hcz12_1
  try clear hcz12_2
  try clear hcz13_0
  try clear hcz13_1
  try clear hcz13_2
  try clear hcz15_0
  try clear hcz15_1
  try clear hcz15_2
  try clear hcz16_0
  try clear hcz16_1
  try clear hcz16_2
  try clear hcz9_0
  try clear hcz9_1
  try clear hcz9_2
  try clear hfz10_0
  try clear hfz10_1
  try clear hfz10_2
  try clear hfz12_0
  try clear hfz12_1
  try clear hfz12_2
  try clear hfz13_0
  try clear hfz13_1
  try clear hfz13_2
  try clear hfz15_0
  try clear hfz15_1
  try clear hfz15_2
  try clear hfz16_0
  try clear hfz16_1
  try clear hfz16_2
  try clear hfz9_0
  try clear hfz9_1
  try clear hfz9_2
  obtain ⟨kq, x26_2, rfl, HA, HJ2, BK263, BK264, HB⟩ := hcut
  cases kq with
  | zero => exact absurd HA.out (by simp [mailroomref07_Same.j0])
  | succ kj2 =>
   have H := HA.out
   clear HA
   simp only [mailroomref07_Same.j0] at H
   by_cases c17 : x26_2 = true
   ·subst c17
    have H1 : (some false) = some r := by rw [if_pos rfl] at H; exact H
    clear H
    have H := H1
    clear H1
    obtain rfl := Option.some.inj H
    go_wp2
    repeat (go_quiet (fail); try go_wp2)
    go_ret
    exact ⟨by first | rfl | (simp [errW_none, errW_some] <;> rfl) | (simp [*, errW_none, errW_some] <;> rfl), by repeat (first | (with_reducible first | exact HB.out | apply below_alloc | apply pw_below_drewN | apply below_drew1 | refine below_set ?_ GE263.out | refine below_set ?_ GE264.out) | exact HB.out)⟩
   ·replace c17 := Bool.eq_false_iff.mpr c17
    subst c17
    have H1 : (mailroomref07_Same.l0 kj2 0 a0_0 a0_1 l0_2 a1_0 a1_1 l1_2) = some r := by rw [if_neg (show ¬ (false = true) by decide)] at H; exact H
    clear H
    have H := H1
    clear H1
    have H' := Aside0.mk H
    clear H
    go_wp2
    repeat (go_quiet (fail); try go_wp2)
    go_loopg [5] kj2 (fun kq v5 w' => ∃ (x5_2 : Int), v5 = .int .i64 x5_2 ∧ Aside0 (mailroomref07_Same.l0 kq x5_2 a0_0 a0_1 l0_2 a1_0 a1_1 l1_2 = some r) ∧ Aside0 (kq ≤ kj2) ∧ Aside0 (w'.heap[gb263]? = some (.cells #[.int .u8 a0_0, .string a0_1, (.slice A0_2 l0_2.length c0_2)] 33 (0, 0))) ∧ Aside0 (w'.heap[gb264]? = some (.cells #[.int .u8 a1_0, .string a1_1, (.slice A1_2 l1_2.length c1_2)] 33 (0, 0))) ∧ Aside0 (Below w.heap.size w w'))
    case atStart => exact ⟨(0), (by first | rfl | (simp; done) | (simp [*]; done)), H', ⟨Nat.le_refl _⟩, ⟨by (with_reducible repeat (first | refine blk_drewN ?_ _ | refine blk_drew ?_ | refine blk_alloc ?_ _)); exact BK263.out⟩, ⟨by (with_reducible repeat (first | refine blk_drewN ?_ _ | refine blk_drew ?_ | refine blk_alloc ?_ _)); exact BK264.out⟩, ⟨by repeat (first | (with_reducible first | exact HB.out | apply below_alloc | apply pw_below_drewN | apply below_drew1 | refine below_set ?_ GE263.out | refine below_set ?_ GE264.out) | exact HB.out)⟩⟩
    case round =>
     clear H'
     try clear c1
     try clear p2
     try clear c6
     try clear c6b0
     try clear c6b1
     try clear c7
     try clear c7b0
     try clear c7b1
     try clear c8
     try clear c10
     try clear c11
     try clear c14
     try clear c17
     try clear hcz10_0
     try clear hcz10_1
     try clear hcz10_2
     try clear hcz12_0
     try clear hcz12_1
     try clear hcz12_2
     try clear hcz13_0
     try clear hcz13_1
     try clear hcz13_2
     try clear hcz15_0
     try clear hcz15_1
     try clear hcz15_2
     try clear hcz16_0
     try clear hcz16_1
     try clear hcz16_2
     try clear hcz9_0
     try clear hcz9_1
     try clear hcz9_2
     try clear hfz10_0
     try clear hfz10_1
     try clear hfz10_2
     try clear hfz12_0
     try clear hfz12_1
     try clear hfz12_2
     try clear hfz13_0
     try clear hfz13_1
     try clear hfz13_2
     try clear hfz15_0
     try clear hfz15_1
     try clear hfz15_2
     try clear hfz16_0
     try clear hfz16_1
     try clear hfz16_2
     try clear hfz9_0
     try clear hfz9_1
     try clear hfz9_2
     try clear p2
     obtain ⟨x5_2, rfl, HA, HK2, BK263, BK264, HB⟩ := hrel
     cases gk with
     | zero => exact absurd HA.out (by simp [mailroomref07_Same.l0])
     | succ k2 =>
      have H := HA.out
      clear HA
      simp only [mailroomref07_Same.l0] at H
      by_cases c18 : x5_2 < (l0_2.length : Int)
      ·rw [if_pos c18] at H
       have c18b0 : decide (x5_2 < (l0_2.length : Int)) = true := decide_eq_true c18
       clear c18
       by_cases c19 : 0 ≤ x5_2
       ·rw [if_pos c19] at H
        have c19b0 : decide (0 ≤ x5_2) = true := decide_eq_true c19
        clear c19
        by_cases c20 : x5_2 < (l1_2.length : Int)
        ·rw [if_pos c20] at H
         have c20b0 : decide (x5_2 < (l1_2.length : Int)) = true := decide_eq_true c20
         clear c20
         by_cases c21 : (!((((rd_T67 l0_2 x5_2).f0).toList) == (((rd_T67 l1_2 x5_2).f0).toList)) || (!((((rd_T67 l0_2 x5_2).f1).toList) == (((rd_T67 l1_2 x5_2).f1).toList)))) = true
         ·rw [if_pos c21] at H
          have c21b0 : (!((((rd_T67 l0_2 x5_2).f0).toList) == (((rd_T67 l1_2 x5_2).f0).toList)) || (!((((rd_T67 l0_2 x5_2).f1).toList) == (((rd_T67 l1_2 x5_2).f1).toList)))) = true := c21
          clear c21
          obtain rfl := Option.some.inj H
          have hnb22 := NB263_264.out
          have hnc22 := NB264_263.out
          have hcz23_0 : wr.cell? ⟨gb263, 0, none⟩ = some (.int .u8 a0_0) := (blk_cell BK263.out 0).trans rfl
          have hcz23_1 : wr.cell? ⟨gb263, 1, none⟩ = some (.string a0_1) := (blk_cell BK263.out 1).trans rfl
          have hcz23_2 : wr.cell? ⟨gb263, 2, none⟩ = some (.slice A0_2 l0_2.length c0_2) := (blk_cell BK263.out 2).trans rfl
          have hfz23_0 := blk_frozen BK263.out 0
          have hfz23_1 := blk_frozen BK263.out 1
          have hfz23_2 := blk_frozen BK263.out 2
          have p265 : 0 ≤ (x5_2 : Int) := of_decide_eq_true (by first | (with_reducible assumption) | assumption)
          have q265 : x5_2 < (l0_2.length : Int) := of_decide_eq_true (by first | (with_reducible assumption) | assumption)
          obtain ⟨ad265, e265, hx265_0, hx265_1⟩ := at_T67 HR0_2.out x5_2 p265 q265
          cases e265
          replace hx265_0 := (HB.out.cell (World.block_lt_of_cell? w _ hx265_0)).trans hx265_0
          replace hx265_1 := (HB.out.cell (World.block_lt_of_cell? w _ hx265_1)).trans hx265_1
          replace p265 := eq_true p265
          replace q265 := eq_true q265
          have hcz24_0 : wr.cell? ⟨gb264, 0, none⟩ = some (.int .u8 a1_0) := (blk_cell BK264.out 0).trans rfl
          have hcz24_1 : wr.cell? ⟨gb264, 1, none⟩ = some (.string a1_1) := (blk_cell BK264.out 1).trans rfl
          have hcz24_2 : wr.cell? ⟨gb264, 2, none⟩ = some (.slice A1_2 l1_2.length c1_2) := (blk_cell BK264.out 2).trans rfl
          have hfz24_0 := blk_frozen BK264.out 0
          have hfz24_1 := blk_frozen BK264.out 1
          have hfz24_2 := blk_frozen BK264.out 2
          have p266 : 0 ≤ (x5_2 : Int) := of_decide_eq_true (by first | (with_reducible assumption) | assumption)
          have q266 : x5_2 < (l1_2.length : Int) := of_decide_eq_true (by first | (with_reducible assumption) | assumption)
          obtain ⟨ad266, e266, hx266_0, hx266_1⟩ := at_T67 HR1_2.out x5_2 p266 q266
          cases e266
          replace hx266_0 := (HB.out.cell (World.block_lt_of_cell? w _ hx266_0)).trans hx266_0
          replace hx266_1 := (HB.out.cell (World.block_lt_of_cell? w _ hx266_1)).trans hx266_1
          replace p266 := eq_true p266
          replace q266 := eq_true q266
          go_wp2
          repeat (go_quiet (fail); try go_wp2)
          go_ret
          exact ⟨by first | rfl | (simp [errW_none, errW_some] <;> rfl) | (simp [*, errW_none, errW_some] <;> rfl), by repeat (first | (with_reducible first | exact HB.out | apply below_alloc | apply pw_below_drewN | apply below_drew1 | refine below_set ?_ GE263.out | refine below_set ?_ GE264.out) | exact HB.out)⟩
         ·rw [if_neg c21] at H
          have c21b0 : (!((((rd_T67 l0_2 x5_2).f0).toList) == (((rd_T67 l1_2 x5_2).f0).toList)) || (!((((rd_T67 l0_2 x5_2).f1).toList) == (((rd_T67 l1_2 x5_2).f1).toList)))) = false := by simpa using c21
          clear c21
          have H' := Aside0.mk H
          clear H
          have hnb25 := NB263_264.out
          have hnc25 := NB264_263.out
          have hcz26_0 : wr.cell? ⟨gb263, 0, none⟩ = some (.int .u8 a0_0) := (blk_cell BK263.out 0).trans rfl
          have hcz26_1 : wr.cell? ⟨gb263, 1, none⟩ = some (.string a0_1) := (blk_cell BK263.out 1).trans rfl
          have hcz26_2 : wr.cell? ⟨gb263, 2, none⟩ = some (.slice A0_2 l0_2.length c0_2) := (blk_cell BK263.out 2).trans rfl
          have hfz26_0 := blk_frozen BK263.out 0
          have hfz26_1 := blk_frozen BK263.out 1
          have hfz26_2 := blk_frozen BK263.out 2
          have p265 : 0 ≤ (x5_2 : Int) := of_decide_eq_true (by first | (with_reducible assumption) | assumption)
          have q265 : x5_2 < (l0_2.length : Int) := of_decide_eq_true (by first | (with_reducible assumption) | assumption)
          obtain ⟨ad265, e265, hx265_0, hx265_1⟩ := at_T67 HR0_2.out x5_2 p265 q265
          cases e265
          replace hx265_0 := (HB.out.cell (World.block_lt_of_cell? w _ hx265_0)).trans hx265_0
          replace hx265_1 := (HB.out.cell (World.block_lt_of_cell? w _ hx265_1)).trans hx265_1
          replace p265 := eq_true p265
          replace q265 := eq_true q265
          have hcz27_0 : wr.cell? ⟨gb264, 0, none⟩ = some (.int .u8 a1_0) := (blk_cell BK264.out 0).trans rfl
          have hcz27_1 : wr.cell? ⟨gb264, 1, none⟩ = some (.string a1_1) := (blk_cell BK264.out 1).trans rfl
          have hcz27_2 : wr.cell? ⟨gb264, 2, none⟩ = some (.slice A1_2 l1_2.length c1_2) := (blk_cell BK264.out 2).trans rfl
          have hfz27_0 := blk_frozen BK264.out 0
          have hfz27_1 := blk_frozen BK264.out 1
          have hfz27_2 := blk_frozen BK264.out 2
          have p266 : 0 ≤ (x5_2 : Int) := of_decide_eq_true (by first | (with_reducible assumption) | assumption)
          have q266 : x5_2 < (l1_2.length : Int) := of_decide_eq_true (by first | (with_reducible assumption) | assumption)
          obtain ⟨ad266, e266, hx266_0, hx266_1⟩ := at_T67 HR1_2.out x5_2 p266 q266
          cases e266
          replace hx266_0 := (HB.out.cell (World.block_lt_of_cell? w _ hx266_0)).trans hx266_0
          replace hx266_1 := (HB.out.cell (World.block_lt_of_cell? w _ hx266_1)).trans hx266_1
          replace p266 := eq_true p266
          replace q266 := eq_true q266
          go_wp2
          repeat (go_quiet (fail); try go_wp2)
          go_roundg k2
          case measure => have := HJ2.out; have := HK2.out; omega
          case rel => exact ⟨(wrap64 (x5_2 + 1)), (by first | rfl | (simp; done) | (simp [*]; done)), H', ⟨by have := HJ2.out; have := HK2.out; omega⟩, ⟨by (with_reducible repeat (first | refine blk_drewN ?_ _ | refine blk_drew ?_ | refine blk_alloc ?_ _)); exact BK263.out⟩, ⟨by (with_reducible repeat (first | refine blk_drewN ?_ _ | refine blk_drew ?_ | refine blk_alloc ?_ _)); exact BK264.out⟩, ⟨by repeat (first | (with_reducible first | exact HB.out | apply below_alloc | apply pw_below_drewN | apply below_drew1 | refine below_set ?_ GE263.out | refine below_set ?_ GE264.out) | exact HB.out)⟩⟩
        ·rw [if_neg c20] at H
         exact absurd H (by simp)
       ·rw [if_neg c19] at H
        exact absurd H (by simp)
      ·rw [if_neg c18] at H
       have c18b0 : decide (x5_2 < (l0_2.length : Int)) = false := decide_eq_false c18
       clear c18
       obtain rfl := Option.some.inj H
       have hnb28 := NB263_264.out
       have hnc28 := NB264_263.out
       have hcz29_0 : wr.cell? ⟨gb263, 0, none⟩ = some (.int .u8 a0_0) := (blk_cell BK263.out 0).trans rfl
       have hcz29_1 : wr.cell? ⟨gb263, 1, none⟩ = some (.string a0_1) := (blk_cell BK263.out 1).trans rfl
       have hcz29_2 : wr.cell? ⟨gb263, 2, none⟩ = some (.slice A0_2 l0_2.length c0_2) := (blk_cell BK263.out 2).trans rfl
       have hfz29_0 := blk_frozen BK263.out 0
       have hfz29_1 := blk_frozen BK263.out 1
       have hfz29_2 := blk_frozen BK263.out 2
       go_wp2
       repeat (go_quiet (fail); try go_wp2)
       go_ret
       exact ⟨by first | rfl | (simp [errW_none, errW_some] <;> rfl) | (simp [*, errW_none, errW_some] <;> rfl), by repeat (first | (with_reducible first | exact HB.out | apply below_alloc | apply pw_below_drewN | apply below_drew1 | refine below_set ?_ GE263.out | refine below_set ?_ GE264.out) | exact HB.out)⟩
end Go.Proofs.YtljkopbalejcgaaGreatDoor.P
end
section
set_option linter.unusedVariables false
set_option linter.unusedSimpArgs false
namespace Go.Proofs.YtljkopbalejcgaaGreatDoor.P
open Go Go.RowKit Go.Lib Go.Proofs.YtljkopbalejcgaaGreatDoorW.PrintWords
theorem may04_ev (s : ByteArray) (hs : s.size ≤ 1000000) : EvF (fun k => mailroomref04_May.f k s) (addrParse s.data.toList).isSome := by
 refine EvF.bind (f := fun k => mailroomref04_Parse.f k s) (g := fun k q => some (q.2.2 == 0)) (parse04_ev s hs) (EvF.of fun k => ?_)
 unfold parseR
 cases addrParse s.data.toList <;> rfl
def cv (x : S56) : S67 := ⟨x.f0, x.f1⟩
theorem told_l (v : Int) (a : ByteArray) (l : List S56) (hl : l.length ≤ 1000000) (i : Nat) (hi : i ≤ l.length) : EvF (fun k => mailroomlaw07_told.l0 k (i : Int) v a l v a ((l.take i).map cv)) (v, a, l.map cv) := by
 refine EvF.down (L := fun k i => mailroomlaw07_told.l0 k (i : Int) v a l v a ((l.take i).map cv)) (V := fun i => (v, a, l.map cv)) l.length (fun i hi ih => ?_) i hi
 by_cases h : i < l.length
 ·have hw : wrap64 ((i : Int) + 1) = ((i + 1 : Nat) : Int) := wrap64_small _ (by omega) (by omega)
  have ht : (l.take (i + 1)).map cv = (l.take i).map cv ++ [cv l[i]] := by rw [List.take_succ_eq_append_getElem h, List.map_append]; rfl
  have hrd : rd_T56 l (i : Int) = l[i] := by
   unfold rd_T56; rw [Int.toNat_natCast, List.getD_eq_getElem?_getD, List.getElem?_eq_getElem h]; rfl
  refine EvF.succ (ih h) (fun k => ?_)
  simp only [mailroomlaw07_told.l0]
  rw [if_pos (by omega), if_pos (by omega), if_pos (by rw [List.length_map, List.length_take]; omega), hrd, hw, ht]; rfl
 ·refine EvF.succ_some fun k => ?_
  simp only [mailroomlaw07_told.l0]
  rw [if_neg (by omega), List.take_of_length_le (by omega)]
theorem told_ev (v : Int) (a : ByteArray) (l : List S56) (hl : l.length ≤ 1000000) : EvF (fun k => mailroomlaw07_told.f k v a l) (v, a, l.map cv) := told_l v a l hl 0 (Nat.zero_le _)
theorem same_l (v : Int) (a : ByteArray) (l : List S67) (hl : l.length ≤ 1000000) (i : Nat) (hi : i ≤ l.length) : EvF (fun k => mailroomref07_Same.l0 k (i : Int) v a l v a l) true := by
 refine EvF.down (L := fun k i => mailroomref07_Same.l0 k (i : Int) v a l v a l) (V := fun i => true) l.length (fun i hi ih => ?_) i hi
 by_cases h : i < l.length
 ·have hw : wrap64 ((i : Int) + 1) = ((i + 1 : Nat) : Int) := wrap64_small _ (by omega) (by omega)
  refine EvF.succ (ih h) (fun k => ?_)
  simp only [mailroomref07_Same.l0]
  rw [if_pos (by omega), if_pos (by omega), if_pos (by omega), if_neg (by simp), hw]
 ·refine EvF.succ_some fun k => ?_
  simp only [mailroomref07_Same.l0]
  rw [if_neg (by omega)]
theorem same_refl (v : Int) (a : ByteArray) (l : List S67) (hl : l.length ≤ 1000000) : EvF (fun k => mailroomref07_Same.f k v a l v a l) true := by
 refine (EvF.succ (f := fun k => mailroomref07_Same.j0 k false v a l v a l) (same_l v a l hl 0 (Nat.zero_le _)) (fun k => by simp [mailroomref07_Same.j0])).congr fun k => ?_
 unfold mailroomref07_Same.f
 rw [if_pos rfl, if_pos rfl]; simp
end Go.Proofs.YtljkopbalejcgaaGreatDoor.P
end
section
namespace Go.Proofs.YtljkopbalejcgaaGreatDoor.P
open Go.RowKit Go.Proofs.YtljkopbalejcgaaGreatDoorW.PrintWords Go.Proofs.YtljkopbalejcgaaGreatDoorW.PrintLast Go.Proofs.YtljkopbalejcgaaGreatDoorW.PrintMore
attribute [local go_sem] max2_int min2_int max_two min_two max_three min_three max_four min_four
set_option linter.unusedVariables false
set_option linter.unusedSimpArgs false
def mailroomref07_great.f (a0 : Int) : Option (Int) := if a0 ≥ 97 then (if a0 ≤ 122 then (some ((a0 - 32) % 256)) else (some a0)) else (some a0)
set_option maxHeartbeats 8000000 in
set_option maxRecDepth 100000 in
theorem mailroomref07_great.calls (a0 : Int) (r : Int) (w : World) (h : mailroomref07_great.f a0 = some r) :
  Calls Tryz.prog 52 #[.int .u8 a0] w fun e w' => e = .returned (.int .u8 r) ∧ Drawn0 w w' := by
 have H : (if a0 ≥ 97 then (if a0 ≤ 122 then (some ((a0 - 32) % 256)) else (some a0)) else (some a0)) = some r := h
 clear h
 by_cases c2 : a0 ≥ 97
 ·rw [if_pos c2] at H
  have c2b0 : decide (97 ≤ a0) = true := decide_eq_true c2
  clear c2
  by_cases c3 : a0 ≤ 122
  ·rw [if_pos c3] at H
   have c3b0 : decide (a0 ≤ 122) = true := decide_eq_true c3
   clear c3
   obtain rfl := Option.some.inj H
   go_enter Tryz.func52, Tryz.ntmps52
   go_wp2
   go_ret
   exact ⟨by first | rfl | (simp; done) | (simp [*]; done), by repeat (first | exact Drawn0.refl _ | apply Drawn0.step)⟩
  ·rw [if_neg c3] at H
   have c3b0 : decide (a0 ≤ 122) = false := decide_eq_false c3
   clear c3
   obtain rfl := Option.some.inj H
   go_enter Tryz.func52, Tryz.ntmps52
   go_wp2
   go_ret
   exact ⟨by first | rfl | (simp; done) | (simp [*]; done), by repeat (first | exact Drawn0.refl _ | apply Drawn0.step)⟩
 ·rw [if_neg c2] at H
  have c2b0 : decide (97 ≤ a0) = false := decide_eq_false c2
  clear c2
  obtain rfl := Option.some.inj H
  go_enter Tryz.func52, Tryz.ntmps52
  go_wp2
  go_ret
  exact ⟨by first | rfl | (simp; done) | (simp [*]; done), by repeat (first | exact Drawn0.refl _ | apply Drawn0.step)⟩
end Go.Proofs.YtljkopbalejcgaaGreatDoor.P
end
section
namespace Go.Proofs.YtljkopbalejcgaaGreatDoor.P
open Go.RowKit Go.Proofs.YtljkopbalejcgaaGreatDoorW.PrintWords Go.Proofs.YtljkopbalejcgaaGreatDoorW.PrintLast Go.Proofs.YtljkopbalejcgaaGreatDoorW.PrintMore
attribute [local go_sem] max2_int min2_int max_two min_two max_three min_three max_four min_four
set_option linter.unusedVariables false
set_option linter.unusedSimpArgs false
def mailroomref07_envid.l0 : Nat → ByteArray → Int → Option (Bool)
 | 0, _, _ => none
 | k + 1, x0, x3 => if x3 < (x0.size : Int) then (if 0 ≤ x3 then ((mailroomref07_great.f (bt x0 x3)).bind fun t231 => (if t231 ≥ 65 then (if t231 ≤ 90 then (mailroomref07_envid.l0 k x0 (wrap64 (x3 + 1))) else (if t231 ≥ 48 then (if t231 ≤ 57 then (mailroomref07_envid.l0 k x0 (wrap64 (x3 + 1))) else (if t231 = 45 then (mailroomref07_envid.l0 k x0 (wrap64 (x3 + 1))) else (some false))) else (if t231 = 45 then (mailroomref07_envid.l0 k x0 (wrap64 (x3 + 1))) else (some false)))) else (if t231 ≥ 48 then (if t231 ≤ 57 then (mailroomref07_envid.l0 k x0 (wrap64 (x3 + 1))) else (if t231 = 45 then (mailroomref07_envid.l0 k x0 (wrap64 (x3 + 1))) else (some false))) else (if t231 = 45 then (mailroomref07_envid.l0 k x0 (wrap64 (x3 + 1))) else (some false))))) else (none)) else (some (decide ((x0.size : Int) ≤ 32)))
def mailroomref07_envid.f (k : Nat) (a0 : ByteArray) : Option (Bool) := mailroomref07_envid.l0 k a0 0
theorem mailroomref07_envid.mono_l : ∀ k, (∀ y0 y1, LeO (mailroomref07_envid.l0 k y0 y1) (mailroomref07_envid.l0 (k + 1) y0 y1))
 | 0 => fun _ _ r h => by simp [mailroomref07_envid.l0] at h
 | k + 1 => by
  have ih0 := mailroomref07_envid.mono_l k
  ·intro y0 y1
   unfold mailroomref07_envid.l0
   repeat' first
   | (with_reducible exact ih0 _ _)
   | (with_reducible exact LeO.refl _)
   | (with_reducible exact LeO.none _)
   | (with_reducible refine LeO.ite ?_ ?_)
   | (with_reducible refine LeO.bind ?_ (fun _ => ?_))
   | exact ih0 _ _
   | exact LeO.none _
   | refine LeO.ite ?_ ?_
   | refine LeO.bind ?_ (fun _ => ?_)
theorem mailroomref07_envid.mono : ∀ a0 k, LeO (mailroomref07_envid.f k a0) (mailroomref07_envid.f (k + 1) a0) := by
 intro a0 k
 have ih0 := mailroomref07_envid.mono_l k
 unfold mailroomref07_envid.f
 repeat' first
   | (with_reducible exact ih0 _ _)
   | (with_reducible exact LeO.refl _)
   | (with_reducible exact LeO.none _)
   | (with_reducible refine LeO.ite ?_ ?_)
   | (with_reducible refine LeO.bind ?_ (fun _ => ?_))
   | exact ih0 _ _
   | exact LeO.none _
   | refine LeO.ite ?_ ?_
   | refine LeO.bind ?_ (fun _ => ?_)
set_option maxHeartbeats 8000000 in
set_option maxRecDepth 100000 in
theorem mailroomref07_envid.calls (k : Nat) (a0 : ByteArray) (r : Bool) (w : World) (h : mailroomref07_envid.f k a0 = some r) :
  Calls Tryz.prog 30 #[.string a0] w fun e w' => e = .returned (.bool r) ∧ Drawn0 w w' := by
 have H : (mailroomref07_envid.l0 k a0 0) = some r := h
 clear h
 have H' := Aside0.mk H
 clear H
 go_enter Tryz.func30, Tryz.ntmps30
 go_wp2
 go_loopg [3] k (fun kq v3 w' => ∃ (x3_1 : Int), v3 = .int .i64 x3_1 ∧ Aside0 (mailroomref07_envid.l0 kq a0 x3_1 = some r) ∧ Aside0 (kq ≤ k) ∧ Drawn0 w w')
 case atStart => exact ⟨(0), (by first | rfl | (simp; done) | (simp [*]; done)), H', ⟨Nat.le_refl _⟩, by repeat (first | exact Drawn0.refl _ | apply Drawn0.step)⟩
 case round =>
  clear H'
  obtain ⟨x3_1, rfl, HA, HK1, ⟨m1, rfl⟩⟩ := hrel
  cases gk with
  | zero => exact absurd HA.out (by simp [mailroomref07_envid.l0])
  | succ k1 =>
   have H := HA.out
   clear HA
   simp only [mailroomref07_envid.l0] at H
   by_cases c2 : x3_1 < (a0.size : Int)
   ·rw [if_pos c2] at H
    have c2b0 : decide (x3_1 < (a0.size : Int)) = true := decide_eq_true c2
    clear c2
    by_cases c3 : 0 ≤ x3_1
    ·rw [if_pos c3] at H
     have c3b0 : decide (0 ≤ x3_1) = true := decide_eq_true c3
     clear c3
     replace H := Option.bind_eq_some_iff.mp H
     obtain ⟨t231, A50, H⟩ := H
     replace H : (if t231 ≥ 65 then (if t231 ≤ 90 then (mailroomref07_envid.l0 k1 a0 (wrap64 (x3_1 + 1))) else (if t231 ≥ 48 then (if t231 ≤ 57 then (mailroomref07_envid.l0 k1 a0 (wrap64 (x3_1 + 1))) else (if t231 = 45 then (mailroomref07_envid.l0 k1 a0 (wrap64 (x3_1 + 1))) else (some false))) else (if t231 = 45 then (mailroomref07_envid.l0 k1 a0 (wrap64 (x3_1 + 1))) else (some false)))) else (if t231 ≥ 48 then (if t231 ≤ 57 then (mailroomref07_envid.l0 k1 a0 (wrap64 (x3_1 + 1))) else (if t231 = 45 then (mailroomref07_envid.l0 k1 a0 (wrap64 (x3_1 + 1))) else (some false))) else (if t231 = 45 then (mailroomref07_envid.l0 k1 a0 (wrap64 (x3_1 + 1))) else (some false)))) = some r := H
     have A5 := Aside0.mk A50
     clear A50
     by_cases c6 : t231 ≥ 65
     ·rw [if_pos c6] at H
      have c6b0 : decide (65 ≤ t231) = true := decide_eq_true c6
      clear c6
      by_cases c7 : t231 ≤ 90
      ·rw [if_pos c7] at H
       have c7b0 : decide (t231 ≤ 90) = true := decide_eq_true c7
       clear c7
       have H' := Aside0.mk H
       clear H
       have p4 : 0 ≤ (x3_1 : Int) := of_decide_eq_true (by first | (with_reducible assumption) | assumption)
       have q4 : x3_1 < (a0.size : Int) := of_decide_eq_true (by first | (with_reducible assumption) | assumption)
       have hx4 := bt_at a0 x3_1
       replace p4 := eq_true p4
       replace q4 := eq_true q4
       go_wp2_with (first | ((with_reducible refine gate_callee (f := 52) rfl ?_); refine goesL_ (some 14) rfl rfl Tryz.func52 (by kernel_rfl) rfl #[.int .u8 (bt a0 x3_1)] rfl (by (try simp only [List.map_toArray, List.map_cons, List.map_nil]); first | done | rfl | (simp only [List.length_drop, List.length_take]; rfl)) ?_; (with_reducible refine (mailroomref07_great.calls (bt a0 x3_1) t231 _ A5.out).mono ?_); rintro e w' ⟨rfl, ⟨nd, rfl⟩⟩; refine ⟨_, rfl, ?_⟩))
       go_roundg k1
       case measure => have := HK1.out; omega
       case rel => exact ⟨(wrap64 (x3_1 + 1)), (by first | rfl | (simp; done) | (simp [*]; done)), H', ⟨by have := HK1.out; omega⟩, by repeat (first | exact Drawn0.refl _ | apply Drawn0.step)⟩
      ·rw [if_neg c7] at H
       have c7b0 : decide (t231 ≤ 90) = false := decide_eq_false c7
       clear c7
       by_cases c8 : t231 ≥ 48
       ·rw [if_pos c8] at H
        have c8b0 : decide (48 ≤ t231) = true := decide_eq_true c8
        clear c8
        by_cases c9 : t231 ≤ 57
        ·rw [if_pos c9] at H
         have c9b0 : decide (t231 ≤ 57) = true := decide_eq_true c9
         clear c9
         have H' := Aside0.mk H
         clear H
         have p4 : 0 ≤ (x3_1 : Int) := of_decide_eq_true (by first | (with_reducible assumption) | assumption)
         have q4 : x3_1 < (a0.size : Int) := of_decide_eq_true (by first | (with_reducible assumption) | assumption)
         have hx4 := bt_at a0 x3_1
         replace p4 := eq_true p4
         replace q4 := eq_true q4
         go_wp2_with (first | ((with_reducible refine gate_callee (f := 52) rfl ?_); refine goesL_ (some 14) rfl rfl Tryz.func52 (by kernel_rfl) rfl #[.int .u8 (bt a0 x3_1)] rfl (by (try simp only [List.map_toArray, List.map_cons, List.map_nil]); first | done | rfl | (simp only [List.length_drop, List.length_take]; rfl)) ?_; (with_reducible refine (mailroomref07_great.calls (bt a0 x3_1) t231 _ A5.out).mono ?_); rintro e w' ⟨rfl, ⟨nd, rfl⟩⟩; refine ⟨_, rfl, ?_⟩))
         go_roundg k1
         case measure => have := HK1.out; omega
         case rel => exact ⟨(wrap64 (x3_1 + 1)), (by first | rfl | (simp; done) | (simp [*]; done)), H', ⟨by have := HK1.out; omega⟩, by repeat (first | exact Drawn0.refl _ | apply Drawn0.step)⟩
        ·rw [if_neg c9] at H
         have c9b0 : decide (t231 ≤ 57) = false := decide_eq_false c9
         clear c9
         by_cases c10 : t231 = 45
         ·rw [if_pos c10] at H
          have c10b0 : (t231 == 45) = true := beq_iff_eq.mpr c10
          have c10b1 : (t231 != 45) = false := bne_eq_false_iff_eq.mpr c10
          clear c10
          have H' := Aside0.mk H
          clear H
          have p4 : 0 ≤ (x3_1 : Int) := of_decide_eq_true (by first | (with_reducible assumption) | assumption)
          have q4 : x3_1 < (a0.size : Int) := of_decide_eq_true (by first | (with_reducible assumption) | assumption)
          have hx4 := bt_at a0 x3_1
          replace p4 := eq_true p4
          replace q4 := eq_true q4
          go_wp2_with (first | ((with_reducible refine gate_callee (f := 52) rfl ?_); refine goesL_ (some 14) rfl rfl Tryz.func52 (by kernel_rfl) rfl #[.int .u8 (bt a0 x3_1)] rfl (by (try simp only [List.map_toArray, List.map_cons, List.map_nil]); first | done | rfl | (simp only [List.length_drop, List.length_take]; rfl)) ?_; (with_reducible refine (mailroomref07_great.calls (bt a0 x3_1) t231 _ A5.out).mono ?_); rintro e w' ⟨rfl, ⟨nd, rfl⟩⟩; refine ⟨_, rfl, ?_⟩))
          go_roundg k1
          case measure => have := HK1.out; omega
          case rel => exact ⟨(wrap64 (x3_1 + 1)), (by first | rfl | (simp; done) | (simp [*]; done)), H', ⟨by have := HK1.out; omega⟩, by repeat (first | exact Drawn0.refl _ | apply Drawn0.step)⟩
         ·rw [if_neg c10] at H
          have c10b0 : (t231 == 45) = false := beq_eq_false_iff_ne.mpr c10
          have c10b1 : (t231 != 45) = true := bne_iff_ne.mpr c10
          obtain rfl := Option.some.inj H
          have p4 : 0 ≤ (x3_1 : Int) := of_decide_eq_true (by first | (with_reducible assumption) | assumption)
          have q4 : x3_1 < (a0.size : Int) := of_decide_eq_true (by first | (with_reducible assumption) | assumption)
          have hx4 := bt_at a0 x3_1
          replace p4 := eq_true p4
          replace q4 := eq_true q4
          go_wp2_with (first | ((with_reducible refine gate_callee (f := 52) rfl ?_); refine goesL_ (some 14) rfl rfl Tryz.func52 (by kernel_rfl) rfl #[.int .u8 (bt a0 x3_1)] rfl (by (try simp only [List.map_toArray, List.map_cons, List.map_nil]); first | done | rfl | (simp only [List.length_drop, List.length_take]; rfl)) ?_; (with_reducible refine (mailroomref07_great.calls (bt a0 x3_1) t231 _ A5.out).mono ?_); rintro e w' ⟨rfl, ⟨nd, rfl⟩⟩; refine ⟨_, rfl, ?_⟩))
          go_ret
          exact ⟨by first | rfl | (simp; done) | (simp [*]; done), by repeat (first | exact Drawn0.refl _ | apply Drawn0.step)⟩
       ·rw [if_neg c8] at H
        have c8b0 : decide (48 ≤ t231) = false := decide_eq_false c8
        clear c8
        by_cases c11 : t231 = 45
        ·rw [if_pos c11] at H
         have c11b0 : (t231 == 45) = true := beq_iff_eq.mpr c11
         have c11b1 : (t231 != 45) = false := bne_eq_false_iff_eq.mpr c11
         clear c11
         have H' := Aside0.mk H
         clear H
         have p4 : 0 ≤ (x3_1 : Int) := of_decide_eq_true (by first | (with_reducible assumption) | assumption)
         have q4 : x3_1 < (a0.size : Int) := of_decide_eq_true (by first | (with_reducible assumption) | assumption)
         have hx4 := bt_at a0 x3_1
         replace p4 := eq_true p4
         replace q4 := eq_true q4
         go_wp2_with (first | ((with_reducible refine gate_callee (f := 52) rfl ?_); refine goesL_ (some 14) rfl rfl Tryz.func52 (by kernel_rfl) rfl #[.int .u8 (bt a0 x3_1)] rfl (by (try simp only [List.map_toArray, List.map_cons, List.map_nil]); first | done | rfl | (simp only [List.length_drop, List.length_take]; rfl)) ?_; (with_reducible refine (mailroomref07_great.calls (bt a0 x3_1) t231 _ A5.out).mono ?_); rintro e w' ⟨rfl, ⟨nd, rfl⟩⟩; refine ⟨_, rfl, ?_⟩))
         go_roundg k1
         case measure => have := HK1.out; omega
         case rel => exact ⟨(wrap64 (x3_1 + 1)), (by first | rfl | (simp; done) | (simp [*]; done)), H', ⟨by have := HK1.out; omega⟩, by repeat (first | exact Drawn0.refl _ | apply Drawn0.step)⟩
        ·rw [if_neg c11] at H
         have c11b0 : (t231 == 45) = false := beq_eq_false_iff_ne.mpr c11
         have c11b1 : (t231 != 45) = true := bne_iff_ne.mpr c11
         obtain rfl := Option.some.inj H
         have p4 : 0 ≤ (x3_1 : Int) := of_decide_eq_true (by first | (with_reducible assumption) | assumption)
         have q4 : x3_1 < (a0.size : Int) := of_decide_eq_true (by first | (with_reducible assumption) | assumption)
         have hx4 := bt_at a0 x3_1
         replace p4 := eq_true p4
         replace q4 := eq_true q4
         go_wp2_with (first | ((with_reducible refine gate_callee (f := 52) rfl ?_); refine goesL_ (some 14) rfl rfl Tryz.func52 (by kernel_rfl) rfl #[.int .u8 (bt a0 x3_1)] rfl (by (try simp only [List.map_toArray, List.map_cons, List.map_nil]); first | done | rfl | (simp only [List.length_drop, List.length_take]; rfl)) ?_; (with_reducible refine (mailroomref07_great.calls (bt a0 x3_1) t231 _ A5.out).mono ?_); rintro e w' ⟨rfl, ⟨nd, rfl⟩⟩; refine ⟨_, rfl, ?_⟩))
         go_ret
         exact ⟨by first | rfl | (simp; done) | (simp [*]; done), by repeat (first | exact Drawn0.refl _ | apply Drawn0.step)⟩
     ·rw [if_neg c6] at H
      have c6b0 : decide (65 ≤ t231) = false := decide_eq_false c6
      clear c6
      by_cases c12 : t231 ≥ 48
      ·rw [if_pos c12] at H
       have c12b0 : decide (48 ≤ t231) = true := decide_eq_true c12
       clear c12
       by_cases c13 : t231 ≤ 57
       ·rw [if_pos c13] at H
        have c13b0 : decide (t231 ≤ 57) = true := decide_eq_true c13
        clear c13
        have H' := Aside0.mk H
        clear H
        have p4 : 0 ≤ (x3_1 : Int) := of_decide_eq_true (by first | (with_reducible assumption) | assumption)
        have q4 : x3_1 < (a0.size : Int) := of_decide_eq_true (by first | (with_reducible assumption) | assumption)
        have hx4 := bt_at a0 x3_1
        replace p4 := eq_true p4
        replace q4 := eq_true q4
        go_wp2_with (first | ((with_reducible refine gate_callee (f := 52) rfl ?_); refine goesL_ (some 14) rfl rfl Tryz.func52 (by kernel_rfl) rfl #[.int .u8 (bt a0 x3_1)] rfl (by (try simp only [List.map_toArray, List.map_cons, List.map_nil]); first | done | rfl | (simp only [List.length_drop, List.length_take]; rfl)) ?_; (with_reducible refine (mailroomref07_great.calls (bt a0 x3_1) t231 _ A5.out).mono ?_); rintro e w' ⟨rfl, ⟨nd, rfl⟩⟩; refine ⟨_, rfl, ?_⟩))
        go_roundg k1
        case measure => have := HK1.out; omega
        case rel => exact ⟨(wrap64 (x3_1 + 1)), (by first | rfl | (simp; done) | (simp [*]; done)), H', ⟨by have := HK1.out; omega⟩, by repeat (first | exact Drawn0.refl _ | apply Drawn0.step)⟩
       ·rw [if_neg c13] at H
        have c13b0 : decide (t231 ≤ 57) = false := decide_eq_false c13
        clear c13
        by_cases c14 : t231 = 45
        ·rw [if_pos c14] at H
         have c14b0 : (t231 == 45) = true := beq_iff_eq.mpr c14
         have c14b1 : (t231 != 45) = false := bne_eq_false_iff_eq.mpr c14
         clear c14
         have H' := Aside0.mk H
         clear H
         have p4 : 0 ≤ (x3_1 : Int) := of_decide_eq_true (by first | (with_reducible assumption) | assumption)
         have q4 : x3_1 < (a0.size : Int) := of_decide_eq_true (by first | (with_reducible assumption) | assumption)
         have hx4 := bt_at a0 x3_1
         replace p4 := eq_true p4
         replace q4 := eq_true q4
         go_wp2_with (first | ((with_reducible refine gate_callee (f := 52) rfl ?_); refine goesL_ (some 14) rfl rfl Tryz.func52 (by kernel_rfl) rfl #[.int .u8 (bt a0 x3_1)] rfl (by (try simp only [List.map_toArray, List.map_cons, List.map_nil]); first | done | rfl | (simp only [List.length_drop, List.length_take]; rfl)) ?_; (with_reducible refine (mailroomref07_great.calls (bt a0 x3_1) t231 _ A5.out).mono ?_); rintro e w' ⟨rfl, ⟨nd, rfl⟩⟩; refine ⟨_, rfl, ?_⟩))
         go_roundg k1
         case measure => have := HK1.out; omega
         case rel => exact ⟨(wrap64 (x3_1 + 1)), (by first | rfl | (simp; done) | (simp [*]; done)), H', ⟨by have := HK1.out; omega⟩, by repeat (first | exact Drawn0.refl _ | apply Drawn0.step)⟩
        ·rw [if_neg c14] at H
         have c14b0 : (t231 == 45) = false := beq_eq_false_iff_ne.mpr c14
         have c14b1 : (t231 != 45) = true := bne_iff_ne.mpr c14
         obtain rfl := Option.some.inj H
         have p4 : 0 ≤ (x3_1 : Int) := of_decide_eq_true (by first | (with_reducible assumption) | assumption)
         have q4 : x3_1 < (a0.size : Int) := of_decide_eq_true (by first | (with_reducible assumption) | assumption)
         have hx4 := bt_at a0 x3_1
         replace p4 := eq_true p4
         replace q4 := eq_true q4
         go_wp2_with (first | ((with_reducible refine gate_callee (f := 52) rfl ?_); refine goesL_ (some 14) rfl rfl Tryz.func52 (by kernel_rfl) rfl #[.int .u8 (bt a0 x3_1)] rfl (by (try simp only [List.map_toArray, List.map_cons, List.map_nil]); first | done | rfl | (simp only [List.length_drop, List.length_take]; rfl)) ?_; (with_reducible refine (mailroomref07_great.calls (bt a0 x3_1) t231 _ A5.out).mono ?_); rintro e w' ⟨rfl, ⟨nd, rfl⟩⟩; refine ⟨_, rfl, ?_⟩))
         go_ret
         exact ⟨by first | rfl | (simp; done) | (simp [*]; done), by repeat (first | exact Drawn0.refl _ | apply Drawn0.step)⟩
      ·rw [if_neg c12] at H
       have c12b0 : decide (48 ≤ t231) = false := decide_eq_false c12
       clear c12
       by_cases c15 : t231 = 45
       ·rw [if_pos c15] at H
        have c15b0 : (t231 == 45) = true := beq_iff_eq.mpr c15
        have c15b1 : (t231 != 45) = false := bne_eq_false_iff_eq.mpr c15
        clear c15
        have H' := Aside0.mk H
        clear H
        have p4 : 0 ≤ (x3_1 : Int) := of_decide_eq_true (by first | (with_reducible assumption) | assumption)
        have q4 : x3_1 < (a0.size : Int) := of_decide_eq_true (by first | (with_reducible assumption) | assumption)
        have hx4 := bt_at a0 x3_1
        replace p4 := eq_true p4
        replace q4 := eq_true q4
        go_wp2_with (first | ((with_reducible refine gate_callee (f := 52) rfl ?_); refine goesL_ (some 14) rfl rfl Tryz.func52 (by kernel_rfl) rfl #[.int .u8 (bt a0 x3_1)] rfl (by (try simp only [List.map_toArray, List.map_cons, List.map_nil]); first | done | rfl | (simp only [List.length_drop, List.length_take]; rfl)) ?_; (with_reducible refine (mailroomref07_great.calls (bt a0 x3_1) t231 _ A5.out).mono ?_); rintro e w' ⟨rfl, ⟨nd, rfl⟩⟩; refine ⟨_, rfl, ?_⟩))
        go_roundg k1
        case measure => have := HK1.out; omega
        case rel => exact ⟨(wrap64 (x3_1 + 1)), (by first | rfl | (simp; done) | (simp [*]; done)), H', ⟨by have := HK1.out; omega⟩, by repeat (first | exact Drawn0.refl _ | apply Drawn0.step)⟩
       ·rw [if_neg c15] at H
        have c15b0 : (t231 == 45) = false := beq_eq_false_iff_ne.mpr c15
        have c15b1 : (t231 != 45) = true := bne_iff_ne.mpr c15
        obtain rfl := Option.some.inj H
        have p4 : 0 ≤ (x3_1 : Int) := of_decide_eq_true (by first | (with_reducible assumption) | assumption)
        have q4 : x3_1 < (a0.size : Int) := of_decide_eq_true (by first | (with_reducible assumption) | assumption)
        have hx4 := bt_at a0 x3_1
        replace p4 := eq_true p4
        replace q4 := eq_true q4
        go_wp2_with (first | ((with_reducible refine gate_callee (f := 52) rfl ?_); refine goesL_ (some 14) rfl rfl Tryz.func52 (by kernel_rfl) rfl #[.int .u8 (bt a0 x3_1)] rfl (by (try simp only [List.map_toArray, List.map_cons, List.map_nil]); first | done | rfl | (simp only [List.length_drop, List.length_take]; rfl)) ?_; (with_reducible refine (mailroomref07_great.calls (bt a0 x3_1) t231 _ A5.out).mono ?_); rintro e w' ⟨rfl, ⟨nd, rfl⟩⟩; refine ⟨_, rfl, ?_⟩))
        go_ret
        exact ⟨by first | rfl | (simp; done) | (simp [*]; done), by repeat (first | exact Drawn0.refl _ | apply Drawn0.step)⟩
    ·rw [if_neg c3] at H
     exact absurd H (by simp)
   ·rw [if_neg c2] at H
    have c2b0 : decide (x3_1 < (a0.size : Int)) = false := decide_eq_false c2
    clear c2
    obtain rfl := Option.some.inj H
    go_wp2
    go_ret
    exact ⟨by first | rfl | (simp; done) | (simp [*]; done), by repeat (first | exact Drawn0.refl _ | apply Drawn0.step)⟩
end Go.Proofs.YtljkopbalejcgaaGreatDoor.P
end
section
namespace Go.Proofs.YtljkopbalejcgaaGreatDoor.P
open Go.RowKit Go.Proofs.YtljkopbalejcgaaGreatDoorW.PrintWords Go.Proofs.YtljkopbalejcgaaGreatDoorW.PrintLast Go.Proofs.YtljkopbalejcgaaGreatDoorW.PrintMore
attribute [local go_sem] max2_int min2_int max_two min_two max_three min_three max_four min_four
set_option linter.unusedVariables false
set_option linter.unusedSimpArgs false
open Go Go.Lib
theorem upper_g (c : UInt8) : mailroomref07_great.f (c.toNat : Int) = some ((upper c).toNat : Int) := by
 have hb : (c.toNat : Int) ≤ 255 := by have := c.toNat_lt; omega
 unfold mailroomref07_great.f
 by_cases h : (97 : Int) ≤ (c.toNat : Int) ∧ (c.toNat : Int) ≤ 122
 ·rw [if_pos h.1, if_pos h.2, upper_t h]
  congr 1; omega
 ·rw [upper_f (by omega)]
  by_cases h1 : (97 : Int) ≤ (c.toNat : Int)
  ·rw [if_pos h1, if_neg (by omega)]
  ·rw [if_neg (by omega)]
set_option maxHeartbeats 2000000 in
set_option maxRecDepth 100000 in
theorem refgreat_any (s : ByteArray) (w : World) (hs : s.size ≤ 140737488351232) :
  Calls Tryz.prog 47 #[.string s] w fun e w' => e = .returned (.string ⟨(s.data.toList.map upper).toArray⟩) ∧ Below w.heap.size w w' := by
 have hcv := _root_.Go.Lib.run_convert_string_bytes (P := Tryz.prog) w 9 64 5 s Tryz.underlying9 Tryz.underlying64 Tryz.underlying5
 have hrow := brow_conv w 5 s
 have hbel := below_conv w 5 s
 have hl := len_eq s
 generalize bytesWorld w 5 s = W1 at hcv hrow hbel
 generalize grownCap w s.size 0 5 = cap at hcv
 generalize s.data.toList = l at hrow hl ⊢
 have HR : Aside0 (BRow W1 w.heap.size l) := ⟨hrow⟩
 have HB : Aside0 (Below w.heap.size w W1) := ⟨hbel⟩
 have HL := Lib.hid hl
 clear hrow hbel hl
 go_enter Tryz.func47, Tryz.ntmps47
 go_wp2
 go_loopg [4] s.size (fun gk i wr => ∃ k : Nat, k ≤ s.size ∧ s.size - k ≤ gk ∧ i = .int .i64 k ∧ Aside0 (BRow wr w.heap.size (turned upper l k)) ∧ Aside0 (Below w.heap.size w wr))
 case atStart => exact ⟨0, by omega, by omega, rfl, ⟨by rw [turned_zero]; exact HR.out⟩, HB⟩
 case round =>
  clear HR HB hcv
  obtain ⟨k, hk, hg, rfl, HR, HB⟩ := hrel
  by_cases hlt : k < s.size
  ·have hlt' : k < l.length := by rw [HL.out]; exact hlt
   have hat := turned_at upper l k hlt'
   have hcell := HR.out k (by rw [turned_len]; exact hlt')
   rw [hat] at hcell
   obtain ⟨hc, hf⟩ := hcell
   have HS := Lib.hid (turned_succ upper l k hlt')
   have HK := Lib.hid (turned_keep upper l k hlt')
   have hg1 := upper_g l[k]
   generalize l[k] = c at hc HS HK hg1
   clear hat HK
   have hb : 0 ≤ (c.toNat : Int) ∧ (c.toNat : Int) ≤ 255 := by have := c.toNat_lt; omega
   have hcall := fun W => mailroomref07_great.calls (c.toNat : Int) _ W hg1
   clear hg1
   go_wp2_with (go_at_call 52; refine (hcall _).mono ?_; rintro e w' ⟨rfl, ⟨nd, rfl⟩⟩)
   go_roundg (s.size - (k + 1))
   case measure => omega
   case rel => exact ⟨k + 1, by omega, by omega, by go_num, ⟨by rw [← HS.out]; exact brow_set (W := wr.drewN nd) HR.out k (by rw [turned_len]; exact hlt') (upper c)⟩, ⟨(pw_below_drewN HB.out nd).setCell (p := ⟨w.heap.size, k, none⟩) (Nat.le_refl _) _⟩⟩
  ·have e : k = s.size := by omega
   subst e
   have hs2 := brow_str (P := Tryz.prog) HR.out 64 5 9 Tryz.underlying64 Tryz.underlying5 Tryz.underlying9 cap
   rw [turned_len, HL.out, show turned upper l s.size = l.map upper by rw [← HL.out]; exact turned_all upper l] at hs2
   go_wp2
   go_ret
   exact ⟨rfl, HB.out⟩
def mailroomref07_Great.f (a : ByteArray) : Option ByteArray := if a.size ≤ 140737488351232 then some ⟨(a.data.toList.map upper).toArray⟩ else none
theorem mailroomref07_Great.calls (a : ByteArray) (r : ByteArray) (w : World) (h : mailroomref07_Great.f a = some r) :
  Calls Tryz.prog 47 #[.string a] w fun e w' => e = .returned (.string r) ∧ Below w.heap.size w w' := by
 unfold mailroomref07_Great.f at h
 split at h
 ·rename_i hs
  obtain rfl := Option.some.inj h
  exact refgreat_any a w hs
 ·simp at h
end Go.Proofs.YtljkopbalejcgaaGreatDoor.P
end
section
set_option linter.unusedVariables false
set_option linter.unusedSimpArgs false
namespace Go.Proofs.YtljkopbalejcgaaGreatDoor.P
open Go Go.RowKit Go.Lib Go.Proofs.YtljkopbalejcgaaGreatDoorW.PrintWords
def idT (t : Int) : Bool := (decide (t ≥ 65) && decide (t ≤ 90)) || (decide (t ≥ 48) && decide (t ≤ 57)) || (t == 45)
def idC (c : UInt8) : Bool := idT ((upper c).toNat : Int)
theorem envid_l (s : ByteArray) (hs : s.size ≤ 1000000) (i : Nat) (hi : i ≤ s.size) : EvF (fun k => mailroomref07_envid.l0 k s (i : Int)) ((s.data.toList.drop i).all idC && decide ((s.size : Int) ≤ 32)) := by
 refine EvF.down (L := fun k i => mailroomref07_envid.l0 k s (i : Int)) (V := fun i => (s.data.toList.drop i).all idC && decide ((s.size : Int) ≤ 32)) s.size (fun i hi ih => ?_) i hi
 by_cases h : i < s.size
 ·have hw : wrap64 ((i : Int) + 1) = ((i + 1 : Nat) : Int) := wrap64_small _ (by omega) (by omega)
  refine EvF.succ (g := fun k => if idC s[i] = true then mailroomref07_envid.l0 k s ((i + 1 : Nat) : Int) else some false) ?_ (fun k => ?_)
  ·show EvF _ ((s.data.toList.drop i).all idC && decide ((s.size : Int) ≤ 32))
   rw [drop_at s i h, List.all_cons]
   cases idC s[i] with
   | false => exact EvF.of fun k => rfl
   | true => exact (ih h).congr fun k => rfl
  ·simp only [mailroomref07_envid.l0]
   rw [if_pos (by omega), if_pos (by omega), bt_nat s i h, upper_g, hw]
   simp only [Option.bind_some]
   unfold idC idT
   generalize ((upper s[i]).toNat : Int) = t
   by_cases h1 : t ≥ 65 <;> by_cases h2 : t ≤ 90 <;> by_cases h3 : t ≥ 48 <;> by_cases h4 : t ≤ 57 <;> by_cases h5 : t = 45 <;> simp [h1, h2, h3, h4, h5] <;> omega
 ·refine EvF.succ_some fun k => ?_
  simp only [mailroomref07_envid.l0]
  rw [if_neg (by omega), List.drop_of_length_le (by rw [len_eq]; omega)]; rfl
theorem envid_ev (s : ByteArray) (hs : s.size ≤ 1000000) : EvF (fun k => mailroomref07_envid.f k s) (s.data.toList.all idC && decide ((s.size : Int) ≤ 32)) := envid_l s hs 0 (Nat.zero_le _)
end Go.Proofs.YtljkopbalejcgaaGreatDoor.P
end
section
set_option linter.unusedVariables false
set_option linter.unusedSimpArgs false
namespace Go.Proofs.YtljkopbalejcgaaGreatDoor.P
open Go Go.RowKit
theorem wide_fn (f : FuncId) : Fence.wide.fn f = True := rfl
theorem wide_depth : Fence.wide.depth = none := rfl
def IterB {α : Type} (P : Program) (g : Nat) (lb : Array Value) (encs : α → Array Value) (xs : List α) (B : Nat) (Pre : World → Prop) : Prop :=
 ∀ (l : Nat) (J Jx : Nat → World → Prop) (W : World), Pre W →
  (∀ i A A', J i A → A.grownBy A' (some B) → J i A') → (∀ i A A', Jx i A → A.grownBy A' (some B) → Jx i A') →
  (∀ i (hi : i < xs.length) W1, J i W1 → YieldAt Fence.wide 0 P l (encs xs[i]) W1 fun e W' =>
   (e = .returned (.bool true) ∧ J (i + 1) W' ∧ W1.heap.size ≤ W'.heap.size ∧ W'.heap[B]? = W1.heap[B]?) ∨ (e = .returned (.bool false) ∧ Jx (i + 1) W')) →
  J 0 W →
  CallsIn Fence.wide 0 P g (#[.func (.yield l) #[] #[]] ++ lb) W fun e W' => (∃ v, e = .returned v) ∧ (J xs.length W' ∨ ∃ i, i ≤ xs.length ∧ Jx i W')
def OwnB {β : Type} (b B : Nat) (I : β → World → Prop) : Prop :=
 ∀ s W W' row, I s W → W.grownBy W' row → (∀ r, row = some r → r = B ∨ (b ≤ r ∧ ∃ o : Obj, W.heap[r]? = some o ∧ o.isCells = false)) → I s W'
theorem OwnB.putObj {β : Type} {b B : Nat} {I : β → World → Prop} (h : OwnB b B I) {s : β} {W : World} {l : Nat} {o : Obj} (o' : Obj) (hs : I s W) (hb : b ≤ l) (hl : W.heap[l]? = some o) (ho : o.isCells = false) : I s (W.putObj l o') :=
 h s W _ (some l) hs (grownBy_putObj' W l o') (fun r e => by cases e; exact .inr ⟨hb, o, hl, ho⟩)
theorem OwnB.alloc {β : Type} {b B : Nat} {I : β → World → Prop} (h : OwnB b B I) {s : β} {W : World} (o : Obj) (hs : I s W) : I s (W.alloc o) :=
 h s W _ none hs (World.grownBy_alloc W o none) (fun r e => by cases e)
def postB (b B : Nat) (I : Nat → World → Prop) (Ix : Code → Nat → World → Prop) (i : Nat) (W : World) : Exit → Act → World → Prop
 | .normal, _, W' => KeepsFrom b W W' ∧ W'.heap[B]? = W.heap[B]? ∧ I i W'
 | .ret, _, W' => KeepsFrom b W W' ∧ Ix .ret i W'
 | .exit id, _, W' => KeepsFrom b W W' ∧ Ix (.exit id) i W'
 | .goto t, _, W' => KeepsFrom b W W' ∧ Ix (.goto t) i W'
 | .panic _, _, _ => False
 | .outgrown, _, _ => False
theorem wpIn_rangeB {α : Type} {P : Program} {g : Operand} {ps : Array Tmp} {assign body : Code} {Q : Exit → Act → World → Prop} {a : Act} {w : World}
  {gf : Nat} {lb : Array Value} (hg : a.eval g = .func (.func gf) #[] lb) (eg : ∀ args w, (callFunc gf args).run P w = .ok (.enter gf args) w)
  {encs : α → Array Value} {xs : List α} {B : Nat} {Pre : World → Prop} (hseq : IterB P gf lb encs xs B Pre) (hB : B < w.heap.size)
  (hPre : ∀ W, Below w.heap.size w W → Pre W) (hps : ∀ x, (encs x).size = ps.size)
  (I : Nat → World → Prop) (Ix : Code → Nat → World → Prop) (hI : OwnB w.heap.size B I) (hIx : ∀ c, OwnB w.heap.size B (Ix c)) (h0 : I 0 w) (a₁ : α → Act)
  (hassign : ∀ (l : Nat) (x : α) (W : World) (K : Act → World → Prop), K (a₁ x) W →
   assign.wpIn (Fence.wide.inRound l) 0 P (Exit.then K (fun _ _ _ => False)) { tmps := (ps.zip (encs x)).foldl (fun t (p, v) => t.setIfInBounds p v) a.tmps, defers := [] } W)
  (hbody : ∀ (l i : Nat) (hi : i < xs.length) (W : World), w.heap.size ≤ W.heap.size → I i W → body.wpIn (Fence.wide.inRound l) 0 P (postB w.heap.size B I Ix (i + 1) W) (a₁ xs[i]) W)
  (hdone : ∀ (D : Nat) (W : World), w.heap.size ≤ D → I xs.length W → W.heap[D]? = some (.deferred (some [])) → Q .normal { a with defers := { target := .collected D, args := #[] } :: a.defers } W)
  (hstop : ∀ (D : Nat) (c : Code) (i : Nat) (W : World), w.heap.size ≤ D → i ≤ xs.length → Ix c i W → W.heap[D]? = some (.deferred (some [])) → c.wpIn Fence.wide 0 P Q { a with defers := { target := .collected D, args := #[] } :: a.defers } W) :
  (Code.rangeFunc g ps assign body).wpIn Fence.wide 0 P Q a w := by
 refine wpIn_rangeFunc ?_
 intro fn hfn
 rw [Fence.wide_round]
 obtain ⟨rec, hrec⟩ : ∃ rec : LoopState → Option Code → Loop, rec = fun st pe => { state := st, pending := pe, fn, tmps := a.tmps, params := ps, assign, body, defers := w.heap.size } := ⟨_, rfl⟩
 obtain ⟨W1, hW1⟩ : ∃ W1, (w.alloc (.deferred (some []))).alloc (.loop (rec .ready none)) = W1 := ⟨_, rfl⟩
 have hsz1 : W1.heap.size = w.heap.size + 2 := by rw [← hW1]; simp
 have hL1 : W1.heap[w.heap.size + 1]? = some (.loop (rec .ready none)) := by
  rw [← hW1]; have := World.alloc_heap_new (w.alloc (.deferred (some []))) (.loop (rec .ready none)); rwa [World.size_alloc] at this
 have hK1 : W1.heap[w.heap.size]? = some (.deferred (some [])) := by
  rw [← hW1]; exact (Below.heap_alloc _ _ _ (by simp)).trans (World.alloc_heap_new w _)
 have hI1 : I 0 W1 := by rw [← hW1]; exact hI.alloc _ (hI.alloc _ h0)
 have hb1 : Below w.heap.size w W1 := by
  rw [← hW1]; exact ((Below.refl _ w).alloc (Nat.le_refl _) _).alloc (by simp) _
 have hne : ∀ {A A' : World} {k : Nat} {o : Obj}, A.grownBy A' (some B) → w.heap.size ≤ k → A.heap[k]? = some o → A'.heap[k]? = some o := fun hg' hk ho =>
  (hg'.block _ (Array.getElem?_eq_some_iff.1 ho).1 (fun e => by cases e; omega)).trans ho
 refine ⟨w.heap.size + 1, [{ target := .collected w.heap.size, args := #[] }], W1, { target := .fn (.func gf) lb, args := #[.func (.yield (w.heap.size + 1)) #[] #[]] }, W1, gf,
  #[.func (.yield (w.heap.size + 1)) #[] #[]] ++ lb, W1, ?_, ?_, fun _ _ => trivial, ?_, fun h => absurd h (by simp [Fence.wide]), ?_⟩
 ·rw [← hW1, hrec]; exact run_enterLoop_outer _ _ _ _ _
 ·simp only [resolve, hg]
  simp [go_sem]
 ·simp [invoke, go_sem, eg]
 ·refine (hseq (w.heap.size + 1)
   (fun i W => I i W ∧ w.heap.size + 2 ≤ W.heap.size ∧ W.heap[w.heap.size + 1]? = some (.loop (rec .ready none)) ∧ W.heap[w.heap.size]? = some (.deferred (some [])))
   (fun i W => ∃ c, Ix c i W ∧ W.heap[w.heap.size + 1]? = some (.loop (rec .done (some c))) ∧ W.heap[w.heap.size]? = some (.deferred (some [])))
   W1 (hPre W1 hb1)
   (fun i A A' hs hg' => ⟨hI i A A' (some B) hs.1 hg' (fun r e => by cases e; exact .inl rfl), Nat.le_trans hs.2.1 hg'.size, hne hg' (by omega) hs.2.2.1, hne hg' (Nat.le_refl _) hs.2.2.2⟩)
   (fun i A A' hs hg' => by
    obtain ⟨c, hc, hl, hk⟩ := hs
    exact ⟨c, hIx c i A A' (some B) hc hg' (fun r e => by cases e; exact .inl rfl), hne hg' (by omega) hl, hne hg' (Nat.le_refl _) hk⟩)
   ?_ ⟨hI1, by omega, hL1, hK1⟩).mono ?_
  ·rintro i hi W ⟨hin, hsz, hl, hk⟩
   have hlt : w.heap.size + 1 < W.heap.size := (Array.getElem?_eq_some_iff.1 hl).1
   have hy := run_yield (P := P) (args := encs xs[i]) hl (by rw [hrec]; exact hps xs[i])
   rw [hrec] at hy
   refine ⟨fn, _, assign, body, hy, roundIn_of_wpIn hfn (hassign _ xs[i] W _ ⟨_, run_beginRound hl (by rw [hrec]), ?_⟩)⟩
   have hl2 : (W.putObj (w.heap.size + 1) (.loop { rec .ready none with state := .busy })).heap[w.heap.size + 1]? = some (.loop { rec .ready none with state := .busy }) := World.putObj_heap_same hlt
   have hk2 : (W.putObj (w.heap.size + 1) (.loop { rec .ready none with state := .busy })).heap[w.heap.size]? = some (.deferred (some [])) := (World.putObj_heap_other (by omega)).trans hk
   have hB2 : (W.putObj (w.heap.size + 1) (.loop { rec .ready none with state := .busy })).heap[B]? = W.heap[B]? := World.putObj_heap_other (by omega)
   refine wpIn_mono (hbody _ i hi _ (by simp; omega) (hI.putObj _ hin (by omega) hl rfl)) ?_
   have fin : ∀ (jump : Option Code) (W3 : World), KeepsFrom w.heap.size (W.putObj (w.heap.size + 1) (.loop { rec .ready none with state := .busy })) W3 →
     (Instr.endRound (w.heap.size + 1) jump).run P W3 = .ok (.bool jump.isNone) (W3.putObj (w.heap.size + 1) (.loop (rec (if jump.isNone then .ready else .done) jump))) ∧
     W3.heap[w.heap.size + 1]? = some (.loop { rec .ready none with state := .busy }) ∧
     (W3.putObj (w.heap.size + 1) (.loop (rec (if jump.isNone then .ready else .done) jump))).heap[w.heap.size + 1]? = some (.loop (rec (if jump.isNone then .ready else .done) jump)) ∧
     (W3.putObj (w.heap.size + 1) (.loop (rec (if jump.isNone then .ready else .done) jump))).heap[w.heap.size]? = some (.deferred (some [])) := fun jump W3 hk3 => by
    have hl3 := hk3.same _ _ (by omega) hl2 rfl
    have := run_endRound (P := P) jump hl3
    rw [hrec] at this ⊢
    exact ⟨this, by rw [hrec] at hl3; exact hl3, World.putObj_heap_same (Array.getElem?_eq_some_iff.1 hl3).1, (World.putObj_heap_other (by omega)).trans (hk3.same _ _ (Nat.le_refl _) hk2 rfl)⟩
   rintro e a3 W3 hp
   cases e with
   | normal =>
    obtain ⟨hk3, hb3, hi3⟩ := hp
    obtain ⟨hr, hl3, hl4, hk4⟩ := fin none W3 hk3
    have hs3 : W.heap.size ≤ W3.heap.size := by have := hk3.size; simpa using this
    exact ⟨_, _, hr, .inl ⟨rfl, ⟨hI.putObj _ hi3 (by omega) hl3 rfl, by simp; omega, hl4, hk4⟩, by simpa using hs3, (World.putObj_heap_other (by omega)).trans (hb3.trans hB2)⟩⟩
   | ret =>
    obtain ⟨hk3, hi3⟩ := hp
    obtain ⟨hr, hl3, hl4, hk4⟩ := fin (some .ret) W3 hk3
    exact ⟨_, _, hr, .inr ⟨rfl, .ret, (hIx _).putObj _ hi3 (by omega) hl3 rfl, hl4, hk4⟩⟩
   | exit id =>
    obtain ⟨hk3, hi3⟩ := hp
    obtain ⟨hr, hl3, hl4, hk4⟩ := fin (some (.exit id)) W3 hk3
    exact ⟨_, _, hr, .inr ⟨rfl, .exit id, (hIx _).putObj _ hi3 (by omega) hl3 rfl, hl4, hk4⟩⟩
   | goto t =>
    obtain ⟨hk3, hi3⟩ := hp
    obtain ⟨hr, hl3, hl4, hk4⟩ := fin (some (.goto t)) W3 hk3
    exact ⟨_, _, hr, .inr ⟨rfl, .goto t, (hIx _).putObj _ hi3 (by omega) hl3 rfl, hl4, hk4⟩⟩
   | panic ch => exact hp.elim
   | outgrown => exact hp.elim
  ·rintro e W2 ⟨⟨v, rfl⟩, (⟨hi, _, hl, hk⟩ | ⟨i, hle, c, hi, hl, hk⟩)⟩
   ·exact ⟨none, _, by have := run_endLoop (P := P) hl (by rw [hrec]; simp); rw [hrec] at this; exact this, hdone _ _ (Nat.le_refl _) (hI.putObj _ hi (by omega) hl rfl) ((World.putObj_heap_other (by omega)).trans hk)⟩
   ·exact ⟨some c, _, by have := run_endLoop (P := P) hl (by rw [hrec]; simp); rw [hrec] at this; exact this, hstop _ c i _ (Nat.le_refl _) hle ((hIx c).putObj _ hi (by omega) hl rfl) ((World.putObj_heap_other (by omega)).trans hk)⟩
theorem boxed_ownB {W W' : World} {row : Option Nat} {R b B : Nat} {t : TypeId} {v : Value} (h : Boxed W R t v) (hg : W.grownBy W' row)
  (hr : ∀ r, row = some r → r = B ∨ (b ≤ r ∧ ∃ o : Obj, W.heap[r]? = some o ∧ o.isCells = false)) (hne : R ≠ B) : Boxed W' R t v :=
 h.kept hg (fun e => by
  rcases hr R e.symm with e' | ⟨_, o, ho, hc⟩
  ·exact hne e'
  ·rw [show W.heap[R]? = _ from h] at ho; cases ho; simp [Obj.isCells] at hc)
theorem below_ownB {w W W' : World} {row : Option Nat} {n b B : Nat} (h : Below n w W) (hn : n ≤ W.heap.size) (hg : W.grownBy W' row)
  (hr : ∀ r, row = some r → r = B ∨ (b ≤ r ∧ ∃ o : Obj, W.heap[r]? = some o ∧ o.isCells = false)) (hb : n ≤ b) (hB : n ≤ B) : Below n w W' :=
 h.grown hg hn (fun k e => by
  rcases hr k e with e' | ⟨h', _⟩ <;> omega)
theorem keeps_drewN (W : World) (n : Nat) : KeepsOthers W (W.drewN n) := ⟨Nat.le_refl _, fun _ _ h _ => h⟩
theorem heap_setCell_ne (W : World) (R B : Nat) (v : Value) (h : B ≠ R) : (W.setCell ⟨R, 0, none⟩ v).heap[B]? = W.heap[B]? := Below.heap_setCell _ _ _ B h
end Go.Proofs.YtljkopbalejcgaaGreatDoor.P
end
section
set_option linter.unusedVariables false
set_option linter.unusedSimpArgs false
namespace Go.Proofs.YtljkopbalejcgaaGreatDoor.P
open Go Go.RowKit Go.Lib Go.Proofs.YtljkopbalejcgaaGreatDoorW.PrintWords
theorem wp_scope_once {P : Program} {a : Act} {w : World} {Q : Exit → Act → World → Prop} {c rest : Code} (l : Nat) (J : Act → World → Prop) (hf : findLabel c l = some rest)
  (first : c.wp P (Exit.jump l J Q) a w) (pass : ∀ a w, J a w → rest.wp P (Exit.jump l (fun _ _ => False) Q) a w) : (Code.scope c).wp P Q a w :=
 wp_scope_jumps l J (fun _ _ => 0) hf first (fun a w hJ => Code.wp_mono (fun e a w h => by cases e <;> first | exact h | exact ⟨h.1, h.2.elim⟩) (pass a w hJ))
set_option maxHeartbeats 1000000 in
theorem label_no (s : ByteArray) (w : World) (hs : s.size ≤ 140737488351232) (h : s.size < 1 ∨ 63 < s.size ∨ ∃ h : 0 < s.size, s[0] = 45 ∨ s[s.size - 1] = 45) :
  Calls Tryz.prog 54 #[.string s] w fun e w' => e = .returned (.tuple #[.bool false, .bool false]) ∧ ∃ n, w' = w.drewN n := by
 go_enter Tryz.func54, Tryz.ntmps54
 go_wp2
 refine wp_scope_once 0 (fun a' w' => a'.defers = [] ∧ a'.tmps.size = 53 ∧ ∃ n, w' = w.drewN n) rfl ?_ ?_
 ·by_cases h0 : s.size < 1
  ·clear h
   go_wp2
   go_step3
   exact ⟨rfl, rfl, rfl, 0, rfl⟩
  by_cases h1 : 63 < s.size
  ·clear h
   go_wp2
   go_step3
   exact ⟨rfl, rfl, rfl, 0, rfl⟩
  have hp : 0 < s.size := by omega
  have h : s[0] = 45 ∨ s[s.size - 1] = 45 := by
   rcases h with h | h | ⟨_, h⟩
   ·exact absurd h h0
   ·exact absurd h h1
   ·exact h
  have hm : 0 ≤ (s.size : Int) - 1 := by omega
  have hm2 : ((s.size : Int) - 1).toNat = s.size - 1 := by omega
  by_cases h2 : s[0] = 45
  ·have h2' : ((s[0].toNat : Int) == 45) = true := by rw [h2]; rfl
   clear h h2
   go_wp2
   go_step3
   exact ⟨rfl, rfl, rfl, 0, rfl⟩
  ·have h3 : s[s.size - 1] = 45 := h.resolve_left h2
   have h2' : ((s[0].toNat : Int) == 45) = false := by
    rw [beq_eq_false_iff_ne]; intro e; exact h2 (UInt8.toNat_inj.mp (show s[0].toNat = 45 by omega))
   have h3' : ((s[s.size - 1].toNat : Int) == 45) = true := by rw [h3]; rfl
   clear h h2 h3
   go_wp2
   go_step3
   exact ⟨rfl, rfl, rfl, 0, rfl⟩
 ·rintro ⟨tmps, defers⟩ w' ⟨rfl, hsz, n, rfl⟩
  go_wp2
  simp only [Exit.jump]
  refine bodyPost_ret (v := .tuple #[.bool false, .bool false]) ?_ rfl ⟨rfl, n, rfl⟩
  simp [results, Tryz.results54, go_sem, hsz]
set_option maxHeartbeats 2000000 in
set_option maxRecDepth 100000 in
theorem label_yes (s : ByteArray) (w : World) (hs : s.size ≤ 140737488351232) (h0 : 0 < s.size) (h1 : s.size ≤ 63) (h2 : s[0] ≠ 45) (h3 : s[s.size - 1] ≠ 45) :
    Calls Tryz.prog 54 #[.string s] w fun e w' => e = .returned (.tuple #[.bool (s.data.toList.all labelByte), .bool (s.data.toList.all labelByte && s.data.toList.all isDigit)]) ∧ ∃ n, w' = w.drewN n := by
  have h2' : ((s[0].toNat : Int) == 45) = false := by
    rw [beq_eq_false_iff_ne]; intro e; exact h2 (UInt8.toNat_inj.mp (show s[0].toNat = 45 by omega))
  have h3' : ((s[s.size - 1].toNat : Int) == 45) = false := by
    rw [beq_eq_false_iff_ne]; intro e; exact h3 (UInt8.toNat_inj.mp (show s[s.size - 1].toNat = 45 by omega))
  have hm : 0 ≤ (s.size : Int) - 1 := by omega
  have hm2 : ((s.size : Int) - 1).toNat = s.size - 1 := by omega
  clear h2 h3
  go_enter Tryz.func54, Tryz.ntmps54
  go_wp2
  refine wp_scope_once 0 (fun a' w' => a'.defers = [] ∧ a'.tmps.size = 53 ∧ s.data.toList.all labelByte = false ∧ ∃ n, w' = w.drewN n) rfl ?_ ?_
  · go_wp2
    go_loopg [3, 29] s.size (fun gk dg i wr => ∃ k : Nat, k ≤ s.size ∧ s.size - k ≤ gk ∧ i = .int .i64 k ∧ dg = .bool ((s.data.toList.take k).all isDigit) ∧ Aside0 ((s.data.toList.take k).all labelByte = true) ∧ wr = w)
    case atStart => exact ⟨0, by omega, by omega, rfl, rfl, ⟨rfl⟩, rfl⟩
    case round =>
      obtain ⟨k, hk, hg, rfl, rfl, HA, rfl⟩ := hrel
      by_cases hlt : k < s.size
      · have hb : 0 ≤ (s[k].toNat : Int) ∧ (s[k].toNat : Int) ≤ 255 := by have := s[k].toNat_lt; omega
        have TD := Lib.hid (take_all_succ s.data.toList isDigit k (by rw [len_eq]; exact hlt))
        have TL := Lib.hid (take_all_succ s.data.toList labelByte k (by rw [len_eq]; exact hlt))
        have TF := Lib.hid (all_false_of s.data.toList labelByte k (by rw [len_eq]; exact hlt))
        rw [at_eq s k hlt] at TD TL TF
        generalize hc : s[k] = c at hb TD TL TF
        go_wp2
        all_goals first
          | (go_step3
             exact ⟨rfl, rfl, rfl, TF.out (labelByte_f (by omega) (by omega) (by assumption)), 0, rfl⟩)
          | (go_roundg (s.size - (k + 1))
             case measure => omega
             case rel => exact ⟨k + 1, by omega, by omega, by go_num, by rw [TD.out]; first | rw [isDigit_t ⟨by omega, by omega⟩, Bool.and_true] | rw [isDigit_f (by omega), Bool.and_false], ⟨by rw [TL.out, HA.out]; exact labelByte_t (by first | exact .inl ⟨by omega, by omega⟩ | exact .inr (.inl ⟨by omega, by omega⟩) | exact .inr (.inr (by assumption)))⟩, rfl⟩)
      · have e : k = s.size := by omega
        subst e
        go_wp2
        simp only [Exit.jump]
        go_ret2
        exact ⟨by rw [List.take_of_length_le (by rw [len_eq]; omega)] at HA ⊢; rw [HA.out]; rfl, 0, rfl⟩
  · rintro ⟨tmps, defers⟩ w' ⟨rfl, hsz, hf, n, rfl⟩
    have HF := Lib.hid hf
    clear hf
    go_wp2
    simp only [Exit.jump]
    refine bodyPost_ret (v := .tuple #[.bool false, .bool false]) ?_ rfl ⟨by rw [HF.out]; rfl, n, rfl⟩
    simp [results, Tryz.results54, go_sem, hsz]
theorem head_eq (s : ByteArray) (h : 0 < s.size) : s.data.toList.head? = some s[0] := by
 rw [List.head?_eq_getElem?, List.getElem?_eq_getElem (by rw [len_eq]; exact h)]; rfl
theorem last_eq (s : ByteArray) (h : 0 < s.size) : s.data.toList.getLast? = some (s[s.size - 1]) := by
 rw [List.getLast?_eq_getElem?, len_eq, List.getElem?_eq_getElem (by rw [len_eq]; omega)]; rfl
theorem label_calls (s : ByteArray) (w : World) (hs : s.size ≤ 140737488351232) :
  Calls Tryz.prog 54 #[.string s] w fun e w' => e = .returned (.tuple #[.bool (labelOk s.data.toList), .bool (labelOk s.data.toList && s.data.toList.all isDigit)]) ∧ ∃ n, w' = w.drewN n := by
 by_cases h : s.size < 1 ∨ 63 < s.size ∨ ∃ h : 0 < s.size, s[0] = 45 ∨ s[s.size - 1] = 45
 ·have e : labelOk s.data.toList = false := by
   unfold labelOk
   rcases h with h | h | ⟨h0, h | h⟩
   ·simp [len_eq, show s.size = 0 by omega]
   ·simp [len_eq, show ¬ s.size ≤ 63 by omega]
   ·simp [head_eq s h0, h]
   ·simp [last_eq s h0, h]
  rw [e]
  exact label_no s w hs h
 ·have h0 : 0 < s.size := by omega
  have h1 : s.size ≤ 63 := by omega
  have h2 : s[0] ≠ 45 := fun e => h (.inr (.inr ⟨h0, .inl e⟩))
  have h3 : s[s.size - 1] ≠ 45 := fun e => h (.inr (.inr ⟨h0, .inr e⟩))
  have e : labelOk s.data.toList = s.data.toList.all labelByte := by
   unfold labelOk
   simp [len_eq, head_eq s h0, last_eq s h0, h2, h3, h1, show 1 ≤ s.size from h0]
  rw [e]
  exact label_yes s w hs h0 h1 h2 h3
end Go.Proofs.YtljkopbalejcgaaGreatDoor.P
end
section
set_option linter.unusedVariables false
set_option linter.unusedSimpArgs false
namespace Go.Proofs.YtljkopbalejcgaaGreatDoor.P
open Go Go.RowKit Go.Lib Go.Proofs.YtljkopbalejcgaaGreatDoorW.PrintWords
attribute [local go_sem] Oper.semAt_some wide_fn wide_depth
def strLen (W : World) (B : Nat) : Nat := match W.cell? ⟨B, 0, none⟩ with
 | some (.string r) => r.size
 | _ => 0
theorem cut_lt (l : List UInt8) (c : UInt8) : (Lib.cut l [c]).2.1.length ≤ l.length ∧ ((Lib.cut l [c]).2.2 = true → (Lib.cut l [c]).2.1.length < l.length) := by
 unfold Lib.cut
 split
 ·rename_i h
  have h1 : Lib.index l [c] ≠ -1 := by omega
  have h2 : 0 < l.length := by
   cases l with
   | nil => exact absurd (by rfl : Lib.index [] [c] = -1) h1
   | cons b l => simp
  simp only [List.length_drop, List.length_cons, List.length_nil]
  exact ⟨by omega, fun _ => by omega⟩
 ·simp
theorem splitOn_len (c : UInt8) : ∀ (l : List UInt8), ∀ x ∈ splitOn c l, x.length ≤ l.length := by
 intro l
 induction l with
 | nil => simp [splitOn]
 | cons b l ih =>
  intro x hx
  simp only [splitOn] at hx
  split at hx
  ·rcases List.mem_cons.1 hx with rfl | hx
   ·simp
   ·have := ih x hx; simp; omega
  ·split at hx
   ·simp at hx; subst hx; simp
   ·rename_i y r he
    rcases List.mem_cons.1 hx with rfl | hx
    ·have := ih y (by rw [he]; simp); simpa using this
    ·have := ih x (by rw [he]; simp [hx]); simp; omega
theorem grown_drewN (B : Nat) (W : World) (n : Nat) : W.grownBy (W.drewN n) (some B) := ⟨rfl, rfl, rfl, Nat.le_refl _, fun _ _ _ => rfl⟩
set_option maxHeartbeats 2000000 in
set_option maxRecDepth 100000 in
theorem split_iter (B : Nat) (s : ByteArray) (hs : s.size ≤ 140737488351232) :
  IterB Tryz.prog 70 #[.pointer (some ⟨B, 0, none⟩)] (fun x : List UInt8 => #[.string ⟨x.toArray⟩]) (splitOn 46 s.data.toList) B (fun W => Boxed W B 9 (.string s)) := by
 intro l J Jx W hW hJ hJx hY h0
 refine callsIn_of_wp Tryz.func70 rfl trivial ?_ rfl
 simp only [Tryz.ntmps70, List.size_toArray, List.length_cons, List.length_nil, Nat.reduceAdd, Nat.reduceSub, Array.replicate_succ, Array.replicate_zero, List.push_toArray, List.append_toArray, List.nil_append, List.cons_append]
 gi_wp2
 gi_loopw [] (fun wr => ∃ (i : Nat) (r : ByteArray), i < (splitOn 46 s.data.toList).length ∧ (splitOn 46 s.data.toList).drop i = splitOn 46 r.data.toList ∧ r.size ≤ s.size ∧ Boxed wr B 9 (.string r) ∧ J i wr)
  (fun wr => strLen wr B)
 case atStart => exact ⟨0, s, List.length_pos_iff.2 (splitOn_ne _ _), rfl, Nat.le_refl _, hW, h0⟩
 case round =>
  obtain ⟨i, r, hi, hd, hr, hbx, hj⟩ := hrel
  have hc := hbx.cell
  have hf := hbx.frozen
  have hsp := splitOn_cut 46 r.data.toList
  have hlt := cut_lt r.data.toList 46
  rw [len_eq] at hlt
  gi_wp2_with (gi_at_call 67; refine (CallsIn.mono (callsIn_wide.2 (cut1 r 46 _ (by omega))) ?_); rintro e w' ⟨rfl, n, rfl⟩)
  generalize hq : Lib.cut r.data.toList [46] = q at hsp hlt
  obtain ⟨a, rest, more⟩ := q
  simp only at hsp hlt
  have he : (splitOn 46 s.data.toList)[i] = a := by
   have h1 : (splitOn 46 s.data.toList)[i] = (splitOn 46 r.data.toList)[0]'(by rw [← hd, List.length_drop]; omega) := by
    simp only [← hd, List.getElem_drop, Nat.add_zero]
   rw [h1]; simp only [hsp]; split <;> rfl
  obtain ⟨fn, tmps, assign, body, hy, hR⟩ := hY i hi (wr.drewN n) (hJ _ _ _ hj (grown_drewN B wr n))
  rw [he] at hy
  cases more with
  | true =>
   simp only [if_true] at hsp
   have HSP := Lib.hid hsp
   have HD := Lib.hid hd
   clear hsp hd hq he
   gi_wp2
   refine hR.mono ?_
   rintro e W3 (⟨rfl, hJ3, hs3, hB3⟩ | ⟨rfl, hJ3⟩)
   ·have hbx3 : Boxed W3 B 9 (.string r) := hB3.trans hbx
    have hc3 := hbx3.cell
    have hf3 := hbx3.frozen
    clear hB3
    gi_wp2
    go_roundw
    case rel =>
     have h1 : (splitOn 46 s.data.toList).drop i = a :: splitOn 46 rest := HD.out.trans HSP.out
     have h2 := congrArg List.length h1
     rw [List.length_drop, List.length_cons] at h2
     have h3 := List.length_pos_iff.2 (splitOn_ne 46 rest)
     refine ⟨i + 1, ⟨rest.toArray⟩, by omega, ?_, ?_, hbx3.set _, hJ _ _ _ hJ3 (grownBy_setCell' _ _ _)⟩
     ·rw [List.drop_add_one_eq_tail_drop, h1]; rfl
     ·show rest.toArray.size ≤ s.size
      rw [List.size_toArray]; omega
    case measure =>
     have h1 := (hbx3.set (.string ⟨rest.toArray⟩)).cell
     have h2 : rest.toArray.size < r.size := by rw [List.size_toArray]; exact hlt.2 trivial
     simp only [strLen, h1, hc]
     exact h2
   ·gi_wp2
    refine bodyPost_ret (results_none rfl _ _ _) rfl ?_
    exact ⟨⟨_, rfl⟩, .inr ⟨i + 1, by omega, hJ3⟩⟩
  | false =>
   simp only [Bool.false_eq_true, if_false] at hsp
   have hlen : i + 1 = (splitOn 46 s.data.toList).length := by
    have := congrArg List.length (hd.trans hsp); rw [List.length_drop] at this; simp at this; omega
   have HL := Lib.hid hlen
   clear hsp hd hq he hlen
   gi_wp2
   refine hR.mono ?_
   rintro e W3 (⟨rfl, hJ3, hs3, hB3⟩ | ⟨rfl, hJ3⟩)
   ·gi_wp2
    refine bodyPost_ret (results_none rfl _ _ _) rfl ?_
    exact ⟨⟨_, rfl⟩, .inl (by rw [← HL.out]; exact hJ3)⟩
   ·gi_wp2
    refine bodyPost_ret (results_none rfl _ _ _) rfl ?_
    exact ⟨⟨_, rfl⟩, .inr ⟨i + 1, by omega, hJ3⟩⟩
end Go.Proofs.YtljkopbalejcgaaGreatDoor.P
end
section
namespace Go.Proofs.YtljkopbalejcgaaGreatDoor.P
open Go.RowKit Go.Proofs.YtljkopbalejcgaaGreatDoorW.PrintWords Go.Proofs.YtljkopbalejcgaaGreatDoorW.PrintLast Go.Proofs.YtljkopbalejcgaaGreatDoorW.PrintMore
attribute [local go_sem] max2_int min2_int max_two min_two max_three min_three max_four min_four
set_option linter.unusedVariables false
set_option linter.unusedSimpArgs false
open Go Go.Lib
set_option maxHeartbeats 400000 in
theorem split_calls (s : ByteArray) (w : World) :
  Calls Tryz.prog 53 #[.string s] w fun e w' => e = .returned (.func (.func 70) #[] #[.pointer (some ⟨w.heap.size, 0, none⟩)]) ∧ w' = w.alloc (.cells #[.string s] 9) := by
 go_enter Tryz.func53, Tryz.ntmps53
 go_wp2
 go_ret
 exact ⟨rfl, rfl⟩
def lastD (xs : List (List UInt8)) : Bool := match xs.getLast? with
 | none => false
 | some l => l.all isDigit
theorem lastD_succ (xs : List (List UInt8)) (i : Nat) (h : i < xs.length) : lastD (xs.take (i + 1)) = xs[i].all isDigit := by
 unfold lastD; rw [List.take_succ_eq_append_getElem h, List.getLast?_concat]
theorem lastD_all (xs : List (List UInt8)) (h : xs ≠ []) : lastD xs = (xs.getLast?.getD []).all isDigit := by
 unfold lastD
 cases hx : xs.getLast? with
 | none => exact absurd (List.getLast?_eq_none_iff.1 hx) h
 | some l => rfl
theorem take_all_succL (l : List (List UInt8)) (p : List UInt8 → Bool) (k : Nat) (h : k < l.length) : (l.take (k + 1)).all p = ((l.take k).all p && p l[k]) := by
 rw [List.take_succ_eq_append_getElem h, List.all_append]
 simp only [List.all_cons, List.all_nil, Bool.and_true]
theorem all_false_ofL (l : List (List UInt8)) (p : List UInt8 → Bool) (k : Nat) (h : k < l.length) (hp : p l[k] = false) : l.all p = false := by
 rw [List.all_eq_false]; exact ⟨l[k], List.getElem_mem h, by simp [hp]⟩
section
attribute [local go_sem] Oper.semAt_some wide_fn wide_depth
set_option maxHeartbeats 2000000 in
set_option maxRecDepth 100000 in
theorem may_in (s : ByteArray) (w : World) (hs : s.size ≤ 253) :
  CallsIn Fence.wide 0 Tryz.prog 35 #[.string s] w fun e w' => e = .returned (.bool (nameMay s.data.toList)) ∧ Below w.heap.size w w' := by
 have hnm : nameMay s.data.toList = ((splitOn 46 s.data.toList).all labelOk && !lastD (splitOn 46 s.data.toList)) := by
  unfold nameMay; rw [len_eq, lastD_all _ (splitOn_ne _ _)]; simp [hs]
 have hlen : ∀ i (h : i < (splitOn 46 s.data.toList).length), (splitOn 46 s.data.toList)[i].toArray.size ≤ 140737488351232 := fun i h => by
  have := splitOn_len 46 s.data.toList _ (List.getElem_mem h)
  rw [len_eq] at this; rw [List.size_toArray]; omega
 have HNM := Lib.hid hnm
 have HLEN := Lib.hid hlen
 clear hnm hlen
 refine callsIn_of_wp_marks Tryz.func35 rfl trivial ?_ rfl
 simp only [Tryz.ntmps35, List.size_toArray, List.length_cons, List.length_nil, Nat.reduceAdd, Nat.reduceSub, Array.replicate_succ, Array.replicate_zero, List.push_toArray, List.append_toArray, List.nil_append, List.cons_append]
 gi_wp2_with (gi_at_call 53; refine (CallsIn.mono (callsIn_wide.2 (split_calls s _)) ?_); rintro e w' ⟨rfl, rfl⟩)
 generalize hxs : splitOn 46 s.data.toList = xs at HNM HLEN
 have b0 := Boxed.new w 4 (.bool false)
 have b1 := Boxed.new (w.alloc (.cells #[.bool false] 4)) 4 (.bool false)
 have b2 := Boxed.new ((w.alloc (.cells #[.bool false] 4)).alloc (.cells #[.bool false] 4)) 9 (.string s)
 have hB0 : Below w.heap.size w (((w.alloc (.cells #[.bool false] 4)).alloc (.cells #[.bool false] 4)).alloc (.cells #[.string s] 9)) := (((Below.refl _ w).alloc (Nat.le_refl _) _).alloc (by simp) _).alloc (by simp; omega) _
 replace b0 := (b0.alloc (.cells #[.bool false] 4)).alloc (.cells #[.string s] 9)
 replace b1 := b1.alloc (.cells #[.string s] 9)
 have hsz : (((w.alloc (.cells #[.bool false] 4)).alloc (.cells #[.bool false] 4)).alloc (.cells #[.string s] 9)).heap.size = w.heap.size + 3 := by simp
 simp only [World.size_alloc] at b1 b2
 generalize hW0 : ((w.alloc (.cells #[.bool false] 4)).alloc (.cells #[.bool false] 4)).alloc (.cells #[.string s] 9) = W0 at b0 b1 b2 hB0 hsz
 clear hW0
 have hit := split_iter (w.heap.size + 1 + 1) s (by omega)
 rw [hxs] at hit
 refine wpIn_rangeB (gf := 70) (lb := #[.pointer (some ⟨w.heap.size + 1 + 1, 0, none⟩)]) rfl (enters_of Tryz.func70 (by kernel_rfl) rfl) hit (by omega)
  (fun W hb => (hb.block _ (by omega)).trans b2) (fun _ => rfl)
  (fun i W => (Boxed W w.heap.size 4 (.bool false) ∧ Boxed W (w.heap.size + 1) 4 (.bool (lastD (xs.take i))) ∧ (xs.take i).all labelOk = true) ∧ Below w.heap.size w W)
  (fun c i W => (c = .ret ∧ Boxed W w.heap.size 4 (.bool false) ∧ xs.all labelOk = false) ∧ Below w.heap.size w W)
  (fun i A A' row hs hg hr => ⟨⟨boxed_ownB hs.1.1 hg hr (by omega), boxed_ownB hs.1.2.1 hg hr (by omega), hs.1.2.2⟩, below_ownB hs.2 hs.2.size hg hr (by omega) (by omega)⟩)
  (fun c i A A' row hs hg hr => ⟨⟨hs.1.1, boxed_ownB hs.1.2.1 hg hr (by omega), hs.1.2.2⟩, below_ownB hs.2 hs.2.size hg hr (by omega) (by omega)⟩)
  ⟨⟨b0, b1, rfl⟩, hB0⟩
  (fun x => { tmps := #[.string s, undef, .pointer (some ⟨w.heap.size, 0, none⟩), .pointer (some ⟨w.heap.size + 1, 0, none⟩), .string ⟨x.toArray⟩, undef, undef, .string s, .int .i64 s.size, .bool (decide (253 < (s.size : Int))), .string s, .func (.func 70) #[] #[.pointer (some ⟨w.heap.size + 1 + 1, 0, none⟩)], .string ⟨x.toArray⟩, undef, undef, undef, undef, undef, undef, undef, undef, undef, undef], defers := [] }) ?assign ?body ?done ?stop
 case assign =>
  intro l x W K hK
  gi_wp2
  exact hK
 case body =>
  rintro l i hi W hsW ⟨⟨c0, c1, ha⟩, hB⟩
  have hlen := HLEN.out i hi
  have hs2 := Lib.hid (lastD_succ xs i hi)
  have hal := Lib.hid (take_all_succL xs labelOk i hi)
  have hof := Lib.hid (all_false_ofL xs labelOk i hi)
  have hcal : ∀ W, Calls Tryz.prog 54 #[.string ⟨xs[i].toArray⟩] W fun e w' => e = .returned (.tuple #[.bool (labelOk xs[i]), .bool (labelOk xs[i] && xs[i].all isDigit)]) ∧ ∃ n, w' = W.drewN n := fun W => label_calls ⟨xs[i].toArray⟩ W hlen
  generalize xs[i] = x at hlen hs2 hal hof hcal
  have cc0 := c0.cell
  have cf0 := c0.frozen
  have cc1 := c1.cell
  have cf1 := c1.frozen
  cases hok : labelOk x with
  | true =>
   rw [hok] at hcal
   simp only [Bool.true_and] at hcal
   gi_wp2_with (gi_at_call 54; refine (CallsIn.mono (CallsIn.inRound l (callsIn_wide.2 (hcal _))) ?_); rintro e w' ⟨rfl, n, rfl⟩)
   exact ⟨((keeps_drewN W n).trans (KeepsOthers.setCell _ _ _)).from _, heap_setCell_ne _ _ _ _ (by omega), ⟨⟨Boxed.other (W := W.drewN n) c0 (by omega) _, by rw [hs2.out]; exact Boxed.set (W := W.drewN n) _ c1, by rw [hal.out, ha, hok]; rfl⟩, (pw_below_drewN hB n).setCell (p := ⟨w.heap.size + 1, 0, none⟩) (by simp) _⟩⟩
  | false =>
   rw [hok] at hcal
   simp only [Bool.false_and] at hcal
   gi_wp2_with (gi_at_call 54; refine (CallsIn.mono (CallsIn.inRound l (callsIn_wide.2 (hcal _))) ?_); rintro e w' ⟨rfl, n, rfl⟩)
   exact ⟨((keeps_drewN W n).trans (KeepsOthers.setCell _ _ _)).from _, ⟨⟨rfl, Boxed.set (W := W.drewN n) _ c0, hof.out hok⟩, (pw_below_drewN hB n).setCell (p := ⟨w.heap.size, 0, none⟩) (by simp) _⟩⟩
 case done =>
  rintro D W hD ⟨⟨c0, c1, ha⟩, hB⟩ hK
  have cc0 := c0.cell
  have cf0 := c0.frozen
  have cc1 := c1.cell
  have cf1 := c1.frozen
  gi_wp2
  have hK' := (KeepsOthers.setCell W ⟨w.heap.size, 0, none⟩ (.bool (!lastD xs))).same D _ hK rfl
  refine ⟨by simp, .inl ⟨_, _, rfl, run_takeDeferred hK', ?_⟩⟩
  have hc5 := cell_kept (World.cell?_setCell_same' W ⟨w.heap.size, 0, none⟩ (.bool (!lastD xs)) (by rw [cc0]; rfl)) (grownBy_putObj' _ D (.deferred none)) (fun r e => by cases e; exact ⟨_, hK', rfl⟩)
  rw [List.take_length] at ha
  refine ⟨.bool (!lastD xs), ?_, by rw [HNM.out, ha, Bool.true_and], (hB.setCell (p := ⟨w.heap.size, 0, none⟩) (by simp) _).trans (belowK_b (w := w) (Nat.le_refl _) _ D _ _ (by omega) hK' rfl rfl)⟩
  simp [results, Tryz.f35, go_sem, hc5]
 case stop =>
  rintro D c i W hD hi ⟨⟨rfl, c0, ha⟩, hB⟩ hK
  gi_wp2
  refine ⟨by simp, .inl ⟨_, _, rfl, run_takeDeferred hK, ?_⟩⟩
  have hc5 := cell_kept c0.cell (grownBy_putObj' _ D (.deferred none)) (fun r e => by cases e; exact ⟨_, hK, rfl⟩)
  refine ⟨.bool false, ?_, by rw [HNM.out, ha, Bool.false_and], hB.trans (belowK_b (w := w) (Nat.le_refl _) W D _ _ (by omega) hK rfl rfl)⟩
  simp [results, Tryz.f35, go_sem, hc5]
end
def name_May.f (a : ByteArray) : Option Bool := if a.size ≤ 140737488351232 then some (nameMay a.data.toList) else none
set_option maxHeartbeats 1000000 in
theorem may_long (s : ByteArray) (w : World) (hs : s.size ≤ 140737488351232) (h : 253 < s.size) :
  Calls Tryz.prog 35 #[.string s] w fun e w' => e = .returned (.bool (nameMay s.data.toList)) ∧ Below w.heap.size w w' := by
 have hn : nameMay s.data.toList = false := by unfold nameMay; rw [len_eq]; simp [show ¬ s.size ≤ 253 by omega]
 have HN := Lib.hid hn
 clear hn
 go_enter Tryz.func35, Tryz.ntmps35
 go_wp2
 refine bodyPost_ret (v := .bool false) (by simp [results, Tryz.results35, go_sem]) rfl ⟨by rw [HN.out], (Below.refl _ _).alloc (Nat.le_refl _) _⟩
theorem name_May.calls (a : ByteArray) (r : Bool) (w : World) (h : name_May.f a = some r) :
  Calls Tryz.prog 35 #[.string a] w fun e w' => e = .returned (.bool r) ∧ Below w.heap.size w w' := by
 unfold name_May.f at h
 split at h
 ·rename_i hs
  obtain rfl := Option.some.inj h
  by_cases hl : a.size ≤ 253
  ·exact callsIn_wide.1 (may_in a w hl)
  ·exact may_long a w hs (by omega)
 ·simp at h
end Go.Proofs.YtljkopbalejcgaaGreatDoor.P
end
section
namespace Go.Proofs.YtljkopbalejcgaaGreatDoor.P
open Go.RowKit Go.Proofs.YtljkopbalejcgaaGreatDoorW.PrintWords Go.Proofs.YtljkopbalejcgaaGreatDoorW.PrintLast Go.Proofs.YtljkopbalejcgaaGreatDoorW.PrintMore
attribute [local go_sem] max2_int min2_int max_two min_two max_three min_three max_four min_four
set_option linter.unusedVariables false
set_option linter.unusedSimpArgs false
open Go Go.Lib
theorem trimSuffix_len (l p : List UInt8) : (Lib.trimSuffix l p).length ≤ l.length := by
 unfold Lib.trimSuffix; split
 ·rw [List.length_take]; omega
 ·exact Nat.le_refl _
set_option maxHeartbeats 2000000 in
set_option maxRecDepth 100000 in
theorem fold_loop (s : ByteArray) (w : World) (hs : s.size ≤ 140737488351232) (r : Bool) (hm : ∀ W, Calls Tryz.prog 35 #[.string ⟨(foldT s.data.toList).toArray⟩] W fun e w' => e = .returned (.bool r) ∧ Below W.heap.size W w') :
  Calls Tryz.prog 77 #[.string s] w fun e w' => e = .returned (.tuple #[.string (if r then ⟨(foldT s.data.toList).toArray⟩ else ⟨#[]⟩), .int .i64 (if r then 0 else 4)]) ∧ Below w.heap.size w w' := by
 have htl := trimSuffix_len s.data.toList [46]
 rw [len_eq] at htl
 unfold foldT at hm ⊢
 generalize ht : Lib.trimSuffix s.data.toList [46] = t at htl hm ⊢
 have HT := Lib.hid ht
 clear ht
 have hcv := _root_.Go.Lib.run_convert_string_bytes (P := Tryz.prog) w 9 64 5 ⟨t.toArray⟩ Tryz.underlying9 Tryz.underlying64 Tryz.underlying5
 have hrow := brow_conv w 5 ⟨t.toArray⟩
 have hbel := below_conv w 5 ⟨t.toArray⟩
 rw [show (⟨t.toArray⟩ : ByteArray).size = t.length from List.size_toArray] at hcv
 rw [show (⟨t.toArray⟩ : ByteArray).data.toList = t from rfl] at hrow
 have hsz1 := bytesWorld_size w 5 ⟨t.toArray⟩
 generalize bytesWorld w 5 ⟨t.toArray⟩ = W1 at hcv hrow hbel hsz1
 replace hsz1 : w.heap.size < W1.heap.size := by omega
 generalize grownCap w t.length 0 5 = cap at hcv
 have HR : Aside0 (BRow W1 w.heap.size t) := ⟨hrow⟩
 have HB : Aside0 (Below w.heap.size w W1) := ⟨hbel⟩
 have HM : Aside0 (∀ W, Calls Tryz.prog 35 #[.string ⟨(t.map lower).toArray⟩] W fun e w' => e = .returned (.bool r) ∧ Below W.heap.size W w') := ⟨hm⟩
 clear hrow hbel hm
 go_enter Tryz.func77, Tryz.ntmps77
 go_wp2_with (go_at_call 91; refine (Tryz.strings_TrimSuffix s ⟨#[46]⟩ _ (by omega)).mono ?_; rintro e w' ⟨rfl, hw⟩; obtain rfl := hw.symm; clear hw; rw [show Lib.trimSuffix s.data.toList (⟨#[46]⟩ : ByteArray).data.toList = t from HT.out])
 go_loopg [12] t.length (fun gk i wr => ∃ k : Nat, k ≤ t.length ∧ t.length - k ≤ gk ∧ i = .int .i64 k ∧ Aside0 (BRow wr w.heap.size (turned lower t k)) ∧ Aside0 (Below w.heap.size w wr) ∧ w.heap.size < wr.heap.size)
 case atStart => exact ⟨0, by omega, by omega, rfl, ⟨by rw [turned_zero]; exact HR.out⟩, HB, hsz1⟩
 case round =>
  clear HR HB hcv hsz1
  obtain ⟨k, hk, hg, rfl, HR, HB, hsz⟩ := hrel
  by_cases hlt : k < t.length
  ·have hat := turned_at lower t k hlt
   have hcell := HR.out k (by rw [turned_len]; exact hlt)
   rw [hat] at hcell
   obtain ⟨hc, hf⟩ := hcell
   have HS := Lib.hid (turned_succ lower t k hlt)
   have HK := Lib.hid (turned_keep lower t k hlt)
   have hu1 := @lower_t t[k]
   have hu2 := @lower_f t[k]
   generalize t[k] = c at hc HS HK hu1 hu2
   have HU1 := Lib.hid hu1
   have HU2 := Lib.hid hu2
   clear hat hu1 hu2
   have hb : 0 ≤ (c.toNat : Int) ∧ (c.toNat : Int) ≤ 255 := by have := c.toNat_lt; omega
   go_wp2
   all_goals
    go_roundg (t.length - (k + 1))
    case measure => omega
    case rel => first
     | exact ⟨k + 1, by omega, by omega, by go_num, ⟨by rw [← HS.out, show (c.toNat : Int) - 65 + 97 = ((lower c).toNat : Int) by rw [HU1.out ⟨by omega, by omega⟩]; omega]; exact brow_set HR.out k (by rw [turned_len]; exact hlt) (lower c)⟩, ⟨HB.out.setCell (p := ⟨w.heap.size, k, none⟩) (Nat.le_refl _) _⟩, by simpa using hsz⟩
     | exact ⟨k + 1, by omega, by omega, by go_num, ⟨by rw [HK.out (HU2.out (by omega))]; exact HR.out⟩, HB, hsz⟩
  ·have e : k = t.length := by omega
   subst e
   have hs2 := brow_str (P := Tryz.prog) HR.out 64 5 9 Tryz.underlying64 Tryz.underlying5 Tryz.underlying9 cap
   rw [turned_len, turned_all] at hs2
   cases r with
   | true =>
    go_wp2_with (go_at_call 35; refine (HM.out _).mono ?_; rintro e w3 ⟨rfl, hb3⟩; have hs3 := brow_str (P := Tryz.prog) (brow_below HR.out hb3 hsz) 64 5 9 Tryz.underlying64 Tryz.underlying5 Tryz.underlying9 cap; rw [turned_len, turned_all] at hs3)
    go_ret2
    exact ⟨rfl, below_then HB.out (Nat.le_of_lt hsz) hb3⟩
   | false =>
    go_wp2_with (go_at_call 35; refine (HM.out _).mono ?_; rintro e w3 ⟨rfl, hb3⟩)
    go_ret2
    exact ⟨rfl, below_then HB.out (Nat.le_of_lt hsz) hb3⟩
def name_Fold.f (a : ByteArray) : Option (ByteArray × Int) := if a.size ≤ 140737488351232 then some (match foldName a.data.toList with
 | some l => (⟨l.toArray⟩, 0)
 | none => (⟨#[]⟩, 4)) else none
theorem name_Fold.calls (a : ByteArray) (r1 : ByteArray) (r2 : Int) (w : World) (h : name_Fold.f a = some (r1, r2)) :
  Calls Tryz.prog 77 #[.string a] w fun e w' => e = .returned (.tuple #[.string r1, .int .i64 r2]) ∧ Below w.heap.size w w' := by
 unfold name_Fold.f at h
 split at h
 ·rename_i hs
  have hl : (foldT a.data.toList).length ≤ a.size := by
   unfold foldT; rw [List.length_map]; have := trimSuffix_len a.data.toList [46]; rw [len_eq] at this; exact this
  have hm : ∀ W, Calls Tryz.prog 35 #[.string ⟨(foldT a.data.toList).toArray⟩] W fun e w' => e = .returned (.bool (nameMay (foldT a.data.toList))) ∧ Below W.heap.size W w' := fun W =>
   name_May.calls _ _ W (by unfold name_May.f; rw [if_pos (by show (foldT a.data.toList).toArray.size ≤ _; rw [List.size_toArray]; omega)])
  have hc := fold_loop a w hs _ hm
  obtain h := Option.some.inj h
  unfold foldName at h
  cases hn : nameMay (foldT a.data.toList) with
  | true => rw [hn] at hc h; simp only [if_true, Prod.mk.injEq] at h hc; obtain ⟨rfl, rfl⟩ := h; exact hc
  | false => rw [hn] at hc h; simp only [Bool.false_eq_true, if_false, Prod.mk.injEq] at h hc; obtain ⟨rfl, rfl⟩ := h; exact hc
 ·simp at h
end Go.Proofs.YtljkopbalejcgaaGreatDoor.P
end
section
set_option linter.unusedVariables false
set_option linter.unusedSimpArgs false
namespace Go.Proofs.YtljkopbalejcgaaGreatDoor.P
open Go Go.RowKit Go.Lib Go.Proofs.YtljkopbalejcgaaGreatDoorW.PrintWords
set_option maxHeartbeats 1000000 in
theorem each_any {σ : Type} (step : σ → UInt8 → σ) (ok : σ → UInt8 → Bool) (Inv : σ → World → Prop) (g : Nat) (lb : Array Value)
  (eg : ∀ args w, (callFunc g args).run Tryz.prog w = .ok (.enter g args) w)
  (hstep : ∀ m c W, Inv m W → Calls Tryz.prog g (#[.int .u8 c.toNat] ++ lb) W fun e W' => e = .returned (.bool (ok m c)) ∧ Inv (step m c) W')
  (s : ByteArray) (hs : s.size ≤ 140737488351232) (m : σ) (w : World) (h0 : Inv m w) :
  Calls Tryz.prog 99 #[.string s, .func (.func g) #[] lb] w fun e w' => e = .returned (.bool (runS step ok m s.data.toList).1) ∧ Inv (runS step ok m s.data.toList).2 w' := by
 have HI : Aside0 (Inv m w) := ⟨h0⟩
 clear h0
 go_enter Tryz.func99, Tryz.ntmps99
 go_wp2
 go_loopg [8] s.size (fun gk i wr => ∃ (k : Nat) (m1 : σ), k ≤ s.size ∧ s.size - k ≤ gk ∧ i = .int .i64 k ∧ Aside0 (Inv m1 wr) ∧ Aside0 (runS step ok m s.data.toList = runS step ok m1 (s.data.toList.drop k)))
 case atStart => exact ⟨0, m, by omega, by omega, rfl, HI, ⟨rfl⟩⟩
 case round =>
  clear HI
  obtain ⟨k, m1, hk, hg, rfl, HI, HR⟩ := hrel
  by_cases hlt : k < s.size
  ·have hd : s.data.toList.drop k = s[k] :: s.data.toList.drop (k + 1) := by
    rw [List.drop_eq_getElem_cons (by rw [len_eq]; exact hlt)]; rfl
   have hcall := hstep m1 s[k] wr HI.out
   have HD := Lib.hid hd
   clear hd
   generalize hc : s[k] = c at HD hcall
   cases hok : ok m1 c with
   | true =>
    rw [hok] at hcall
    have HC : Aside0 (runS step ok m s.data.toList = runS step ok (step m1 c) (s.data.toList.drop (k + 1))) := ⟨by rw [HR.out, HD.out]; simp only [runS]; rw [if_pos hok]⟩
    go_wp2_with (go_at_fn g; refine hcall.mono ?_; rintro e w' ⟨rfl, hi⟩; have HI2 : Aside0 (Inv (step m1 c) w') := ⟨hi⟩; clear hi)
    go_roundg (s.size - (k + 1))
    case measure => omega
    case rel => exact ⟨k + 1, step m1 c, by omega, by omega, by go_num, HI2, HC⟩
   | false =>
    rw [hok] at hcall
    have HC : Aside0 (runS step ok m s.data.toList = (false, step m1 c)) := ⟨by rw [HR.out, HD.out]; simp only [runS]; rw [if_neg (by rw [hok]; exact Bool.false_ne_true)]⟩
    go_wp2_with (go_at_fn g; refine hcall.mono ?_; rintro e w' ⟨rfl, hi⟩; have HI2 : Aside0 (Inv (step m1 c) w') := ⟨hi⟩; clear hi)
    go_ret
    exact ⟨by rw [HC.out]; rfl, by rw [HC.out]; exact HI2.out⟩
  ·have e : k = s.size := by omega
   subst e
   have HC : Aside0 (runS step ok m s.data.toList = (true, m1)) := ⟨by rw [HR.out, List.drop_of_length_le (by rw [len_eq]; omega)]; rfl⟩
   go_wp2
   go_ret
   exact ⟨by rw [HC.out]; rfl, by rw [HC.out]; exact HI.out⟩
theorem boxed_drewN' {W : World} {R : Nat} {t : TypeId} {v : Value} (h : Boxed W R t v) (n : Nat) : Boxed (W.drewN n) R t v := h
set_option maxHeartbeats 1000000 in
theorem letter_calls (c : UInt8) (w : World) : Calls Tryz.prog 101 #[.int .u8 c.toNat] w fun e w' => e = .returned (.bool (isAlnum c)) ∧ w' = w := by
 have hb : 0 ≤ (c.toNat : Int) ∧ (c.toNat : Int) ≤ 255 := by have := c.toNat_lt; omega
 have HE := Lib.hid (show isAlnum c = ((decide (97 ≤ (c.toNat : Int)) && decide ((c.toNat : Int) ≤ 122)) || (decide (65 ≤ (c.toNat : Int)) && decide ((c.toNat : Int) ≤ 90)) || (decide (48 ≤ (c.toNat : Int)) && decide ((c.toNat : Int) ≤ 57))) by unfold isAlnum; rw [isLower_eq, isUpper_eq, isDigit_eq])
 go_enter Tryz.func101, Tryz.ntmps101
 go_wp2
 all_goals
  go_ret
  refine ⟨congrArg (fun b => Ending.returned (.bool b)) ?_, rfl⟩
  rw [HE.out, Bool.eq_iff_iff]
  simp
  try omega
set_option maxHeartbeats 1000000 in
theorem atomStep_calls (n D : Nat) (hD : n ≤ D) (m : Bool) (c : UInt8) (W0 W : World) (h : Boxed W D 4 (.bool m) ∧ Below n W0 W) :
  Calls Tryz.prog 100 (#[.int .u8 c.toNat] ++ #[.pointer (some ⟨D, 0, none⟩)]) W fun e W' => e = .returned (.bool (atomOk m c)) ∧ Boxed W' D 4 (.bool (atomStep m c)) ∧ Below n W0 W' := by
 obtain ⟨hb, hB⟩ := h
 have hc := hb.cell
 have hf := hb.frozen
 have fin : ∀ (b d : Bool) (k : Nat), b = atomOk m c → d = atomStep m c → (Ending.returned (.bool b) = .returned (.bool (atomOk m c)) ∧ Boxed ((W.setCell ⟨D, 0, none⟩ (.bool d)).drewN k) D 4 (.bool (atomStep m c)) ∧ Below n W0 ((W.setCell ⟨D, 0, none⟩ (.bool d)).drewN k)) := by
  intro b d k hb2 hd2
  subst hb2 hd2
  exact ⟨rfl, boxed_drewN' (hb.set _) k, pw_below_drewN (hB.setCell (p := ⟨D, 0, none⟩) hD _) k⟩
 have FIN : Aside0 (∀ (b d : Bool) (k : Nat), b = atomOk m c → d = atomStep m c → (Ending.returned (.bool b) = .returned (.bool (atomOk m c)) ∧ Boxed ((W.setCell ⟨D, 0, none⟩ (.bool d)).drewN k) D 4 (.bool (atomStep m c)) ∧ Below n W0 ((W.setCell ⟨D, 0, none⟩ (.bool d)).drewN k))) := ⟨fin⟩
 clear fin hb hB
 have hbc : 0 ≤ (c.toNat : Int) ∧ (c.toNat : Int) ≤ 255 := by have := c.toNat_lt; omega
 by_cases h46 : c = 46
 ·have e46 : ((c.toNat : Int) == 46) = true := by rw [h46]; rfl
  have n46 : (c == 46) = true := by simpa using h46
  have E46 := Lib.hid n46
  clear n46 h46
  cases m with
  | true =>
   go_enter Tryz.func100, Tryz.ntmps100
   go_wp2
   go_ret
   exact FIN.out _ _ 0 (by unfold atomOk; rw [E46.out]; rfl) (by unfold atomStep; rw [E46.out])
  | false =>
   go_enter Tryz.func100, Tryz.ntmps100
   go_wp2
   go_ret
   exact FIN.out _ _ 0 (by unfold atomOk; rw [E46.out]; rfl) (by unfold atomStep; rw [E46.out])
 ·have e46 : ((c.toNat : Int) == 46) = false := by rw [← show ((46 : UInt8).toNat : Int) = 46 from rfl, ← u8_beq]; simpa using h46
  have n46 : (c == 46) = false := by simpa using h46
  have E46 := Lib.hid n46
  clear n46
  have hal : ∀ W, Calls Tryz.prog 101 #[.int .u8 c.toNat] W fun e w' => e = .returned (.bool (isAlnum c)) ∧ w' = W := fun W => letter_calls c W
  have hix : ∀ W, Calls Tryz.prog 102 #[.string ⟨#[33, 35, 36, 37, 38, 39, 42, 43, 45, 47, 61, 63, 94, 95, 123, 124, 125, 126, 96]⟩, .int .u8 c.toNat] W fun e w' => e = .returned (.int .i64 (Lib.indexByte signs c)) ∧ w' = W := fun W => by
   have := Tryz.strings_IndexByte ⟨#[33, 35, 36, 37, 38, 39, 42, 43, 45, 47, 61, 63, 94, 95, 123, 124, 125, 126, 96]⟩ c.toNat W
   rw [show (c.toNat : Int).toNat.toUInt8 = c by simp] at this
   exact this
  cases hA : isAlnum c with
  | true =>
   rw [hA] at hal
   have HA := Lib.hid hA
   clear hA
   go_enter Tryz.func100, Tryz.ntmps100
   go_wp2_with (first | (go_at_call 101; refine (hal _).mono ?_; rintro e w' ⟨rfl, hw⟩; obtain rfl := hw.symm; clear hw))
   go_ret
   exact FIN.out _ _ 0 (by unfold atomOk atomByte; rw [E46.out, HA.out]; rfl) (by unfold atomStep; rw [E46.out])
  | false =>
   rw [hA] at hal
   have HA := Lib.hid hA
   clear hA
   have hge := Lib.indexByte_ge signs c
   generalize hq : Lib.indexByte signs c = q at hix hge
   have HQ := Lib.hid hq
   clear hq
   by_cases h0 : 0 ≤ q
   all_goals
    have h1 : decide (0 ≤ q) = decide (0 ≤ q) := rfl
    go_enter Tryz.func100, Tryz.ntmps100
    go_wp2_with (first | (go_at_call 101; refine (hal _).mono ?_; rintro e w' ⟨rfl, hw⟩; obtain rfl := hw.symm; clear hw) | (go_at_call 102; refine (hix _).mono ?_; rintro e w' ⟨rfl, hw⟩; obtain rfl := hw.symm; clear hw))
    go_ret
    exact FIN.out _ _ 0 (by unfold atomOk atomByte; rw [E46.out, HA.out, HQ.out]; simp [h0]) (by unfold atomStep; rw [E46.out])
set_option maxHeartbeats 1000000 in
theorem markStep_calls (n D : Nat) (hD : n ≤ D) (m : Bool) (c : UInt8) (W0 W : World) (h : Boxed W D 4 (.bool m) ∧ Below n W0 W) :
  Calls Tryz.prog 103 (#[.int .u8 c.toNat] ++ #[.pointer (some ⟨D, 0, none⟩)]) W fun e W' => e = .returned (.bool (markOk m c)) ∧ Boxed W' D 4 (.bool (markStep m c)) ∧ Below n W0 W' := by
 obtain ⟨hb, hB⟩ := h
 have hc := hb.cell
 have hf := hb.frozen
 have FIN : Aside0 (∀ (b d : Bool), b = markOk m c → d = markStep m c → (Ending.returned (.bool b) = .returned (.bool (markOk m c)) ∧ Boxed (W.setCell ⟨D, 0, none⟩ (.bool d)) D 4 (.bool (markStep m c)) ∧ Below n W0 (W.setCell ⟨D, 0, none⟩ (.bool d)))) := ⟨by
  intro b d hb2 hd2
  subst hb2 hd2
  exact ⟨rfl, hb.set _, hB.setCell (p := ⟨D, 0, none⟩) hD _⟩⟩
 clear hb hB
 have hbc : 0 ≤ (c.toNat : Int) ∧ (c.toNat : Int) ≤ 255 := by have := c.toNat_lt; omega
 have E92 := Lib.hid (show (c == 92) = ((c.toNat : Int) == 92) from u8_beq c 92)
 have E34 := Lib.hid (show (c == 34) = ((c.toNat : Int) == 34) from u8_beq c 34)
 cases m with
 | true =>
  go_enter Tryz.func103, Tryz.ntmps103
  go_wp2
  all_goals
   go_ret
   exact FIN.out _ _ (by unfold markOk; rw [E34.out, Bool.eq_iff_iff]; simp; try omega) (by unfold markStep; rw [E92.out, Bool.eq_iff_iff]; simp; try omega)
 | false =>
  go_enter Tryz.func103, Tryz.ntmps103
  go_wp2
  all_goals
   go_ret
   exact FIN.out _ _ (by unfold markOk; rw [E34.out, Bool.eq_iff_iff]; simp; try omega) (by unfold markStep; rw [E92.out, Bool.eq_iff_iff]; simp; try omega)
end Go.Proofs.YtljkopbalejcgaaGreatDoor.P
end
section
set_option linter.unusedVariables false
set_option linter.unusedSimpArgs false
namespace Go.Proofs.YtljkopbalejcgaaGreatDoor.P
open Go Go.RowKit Go.Lib Go.Proofs.YtljkopbalejcgaaGreatDoorW.PrintWords
set_option maxHeartbeats 1000000 in
theorem atoms_calls (s : ByteArray) (w : World) (hs : s.size ≤ 140737488351232) :
  Calls Tryz.prog 88 #[.string s] w fun e w' => e = .returned (.bool (atomsOk s.data.toList)) ∧ Below w.heap.size w w' := by
 have he := each_any atomStep atomOk (fun m W => Boxed W w.heap.size 4 (.bool m) ∧ Below w.heap.size w W) 100 #[.pointer (some ⟨w.heap.size, 0, none⟩)] (enters_of Tryz.func100 (by kernel_rfl) rfl)
  (fun m c W h => atomStep_calls w.heap.size w.heap.size (Nat.le_refl _) m c w W h) s hs true (w.alloc (.cells #[.bool true] 4)) ⟨Boxed.new w _ _, (Below.refl _ _).alloc (Nat.le_refl _) _⟩
 unfold atomsOk
 generalize runS atomStep atomOk true s.data.toList = r at he ⊢
 obtain ⟨b, m⟩ := r
 cases b <;> cases m
 all_goals
  simp only at he
  go_enter Tryz.func88, Tryz.ntmps88
  go_wp2_with (go_at_call 99; refine he.mono ?_; rintro e w1 ⟨rfl, hb, hB⟩; have hc := hb.cell; have HB : Aside0 (Below w.heap.size w w1) := ⟨hB⟩; clear hb hB)
  go_ret
  exact ⟨rfl, HB.out⟩
set_option maxHeartbeats 1000000 in
theorem quoted_calls (s : ByteArray) (w : World) (hs : s.size ≤ 140737488351232) :
  Calls Tryz.prog 89 #[.string s] w fun e w' => e = .returned (.bool (quotedOk s.data.toList)) ∧ Below w.heap.size w w' := by
 have hl1 : (Lib.trimPrefix s.data.toList [34]).length ≤ s.size := by
  unfold Lib.trimPrefix; split
  ·rw [List.length_drop, len_eq]; omega
  ·rw [len_eq]; exact Nat.le_refl _
 have hl2 : (quotedIn s.data.toList).length ≤ s.size := by
  unfold quotedIn Lib.trimSuffix; split
  ·rw [List.length_take]; omega
  ·exact hl1
 have he := each_any markStep markOk (fun m W => Boxed W w.heap.size 4 (.bool m) ∧ Below w.heap.size w W) 103 #[.pointer (some ⟨w.heap.size, 0, none⟩)] (enters_of Tryz.func103 (by kernel_rfl) rfl)
  (fun m c W h => markStep_calls w.heap.size w.heap.size (Nat.le_refl _) m c w W h) ⟨(quotedIn s.data.toList).toArray⟩ (by show (quotedIn s.data.toList).toArray.size ≤ _; rw [List.size_toArray]; omega) false (w.alloc (.cells #[.bool false] 4)) ⟨Boxed.new w _ _, (Below.refl _ _).alloc (Nat.le_refl _) _⟩
 have h1 : ∀ W, Calls Tryz.prog 66 #[.string s, .string ⟨#[34]⟩] W fun e w' => e = .returned (.tuple #[.string ⟨(Lib.trimPrefix s.data.toList [34]).toArray⟩, .bool (Lib.hasPrefix s.data.toList [34])]) ∧ w' = W := fun W => Tryz.strings_CutPrefix s ⟨#[34]⟩ W
 have h2 : ∀ W, Calls Tryz.prog 83 #[.string ⟨(Lib.trimPrefix s.data.toList [34]).toArray⟩, .string ⟨#[34]⟩] W fun e w' => e = .returned (.tuple #[.string ⟨(quotedIn s.data.toList).toArray⟩, .bool (Lib.hasSuffix (Lib.trimPrefix s.data.toList [34]) [34])]) ∧ w' = W := fun W =>
  Tryz.strings_CutSuffix ⟨(Lib.trimPrefix s.data.toList [34]).toArray⟩ ⟨#[34]⟩ W (by show (Lib.trimPrefix s.data.toList [34]).toArray.size ≤ _; rw [List.size_toArray]; omega)
 unfold quotedOk
 rw [show (⟨(quotedIn s.data.toList).toArray⟩ : ByteArray).data.toList = quotedIn s.data.toList from rfl] at he
 generalize runS markStep markOk false (quotedIn s.data.toList) = r at he ⊢
 obtain ⟨b, m⟩ := r
 simp only at he ⊢
 generalize Lib.hasPrefix s.data.toList [34] = p1 at h1 ⊢
 generalize Lib.hasSuffix (Lib.trimPrefix s.data.toList [34]) [34] = p2 at h2 ⊢
 generalize quotedIn s.data.toList = q at h2 he
 generalize Lib.trimPrefix s.data.toList [34] = q1 at h1 h2
 clear hl1 hl2
 cases p1 <;> cases p2 <;> cases b <;> cases m
 all_goals
  go_enter Tryz.func89, Tryz.ntmps89
  go_wp2_with (first | (go_at_call 66; refine (h1 _).mono ?_; rintro e w1 ⟨rfl, hw⟩; obtain rfl := hw.symm; clear hw) | (go_at_call 83; refine (h2 _).mono ?_; rintro e w1 ⟨rfl, hw⟩; obtain rfl := hw.symm; clear hw) | (go_at_call 99; refine he.mono ?_; rintro e w1 ⟨rfl, hb, hB⟩; have hc := hb.cell; have HB : Aside0 (Below w.heap.size w w1) := ⟨hB⟩; clear hb hB))
  go_ret
  exact ⟨rfl, HB.out⟩
set_option maxHeartbeats 400000 in
theorem kinds_calls (w : World) : Calls Tryz.prog 74 #[] w fun e w' => e = .returned (.agg #[.func (.func 88) #[] #[], .func (.func 89) #[] #[]]) ∧ w' = w.alloc (.cells #[.func (.func 88) #[] #[], .func (.func 89) #[] #[]] 102) := by
 go_enter Tryz.func74, Tryz.ntmps74
 go_wp2
 exact bodyPost_ret (v := .agg #[.func (.func 88) #[] #[], .func (.func 89) #[] #[]]) (by simp [results, Tryz.results74, go_sem]) rfl ⟨rfl, rfl⟩
end Go.Proofs.YtljkopbalejcgaaGreatDoor.P
end
section
set_option linter.unusedVariables false
set_option linter.unusedSimpArgs false
namespace Go.Proofs.YtljkopbalejcgaaGreatDoor.P
open Go Go.RowKit Go.Lib Go.Proofs.YtljkopbalejcgaaGreatDoorW.PrintWords
def firstIx (p : Nat → Bool) (n : Nat) : Int := match (List.range n).find? p with
 | some j => j
 | none => -1
theorem firstIx_hit (p : Nat → Bool) (n k : Nat) (hk : k < n) (hp : p k = true) (hf : ∀ j, j < k → p j = false) : firstIx p n = k := by
 have : (List.range n).find? p = some k := by
  rw [List.find?_range_eq_some]
  exact ⟨hp, List.mem_range.2 hk, fun j hj => by simp [hf j hj]⟩
 unfold firstIx; rw [this]
theorem firstIx_miss (p : Nat → Bool) (n : Nat) (hf : ∀ j, j < n → p j = false) : firstIx p n = -1 := by
 have : (List.range n).find? p = none := by
  rw [List.find?_eq_none]
  intro x hx
  rw [hf x (List.mem_range.1 hx)]; exact Bool.false_ne_true
 unfold firstIx; rw [this]
theorem firstIx_any (p : Nat → Bool) (n : Nat) : (List.range n).any p = decide (0 ≤ firstIx p n) := by
 unfold firstIx
 cases h : (List.range n).find? p with
 | none =>
  rw [List.find?_eq_none] at h
  simp
  intro x hx
  have := h x (List.mem_range.2 hx)
  simpa using this
 | some j =>
  have h1 := List.find?_some h
  have h2 := List.mem_of_find?_eq_some h
  simp
  exact ⟨j, List.mem_range.1 h2, h1⟩
set_option maxHeartbeats 1000000 in
theorem idx_byte (g : Nat) (lb : Array Value) (eg : ∀ args w, (callFunc g args).run Tryz.prog w = .ok (.enter g args) w)
  (n b c : Nat) (F : Nat → Value) (p : Nat → Bool) (w : World) (hn : n ≤ 140737488351232) (hb : b < w.heap.size)
  (hc : ∀ j, j < n → w.cell? ⟨b, j, none⟩ = some (F j))
  (hcl : ∀ j, j < n → ∀ W, Below w.heap.size w W → Calls Tryz.prog g (#[F j] ++ lb) W fun e W' => e = .returned (.bool (p j)) ∧ Below w.heap.size w W') :
  Calls Tryz.prog 51 #[.slice (some ⟨b, 0, none⟩) n c, .func (.func g) #[] lb] w fun e w' => e = .returned (.int .i64 (firstIx p n)) ∧ Below w.heap.size w w' := by
 have HC : Aside0 (∀ j, j < n → ∀ W, Below w.heap.size w W → W.cell? ⟨b, j, none⟩ = some (F j)) := ⟨fun j hj W hW => (hW.cell (p := ⟨b, j, none⟩) hb).trans (hc j hj)⟩
 have HCL := Aside0.mk hcl
 clear hc hcl
 go_enter Tryz.func51, Tryz.ntmps51
 go_wp2
 go_loopg [8] n (fun gk i wr => ∃ k : Nat, k ≤ n ∧ n - k ≤ gk ∧ i = .int .i64 k ∧ Aside0 (Below w.heap.size w wr) ∧ Aside0 (∀ j, j < k → p j = false))
 case atStart => exact ⟨0, by omega, by omega, rfl, ⟨Below.refl _ _⟩, ⟨fun j h => absurd h (Nat.not_lt_zero _)⟩⟩
 case round =>
  obtain ⟨k, hk, hg, rfl, HB, HF⟩ := hrel
  by_cases hlt : k < n
  ·have hltz : (k : Int) < (n : Int) := by omega
   have hcall := HCL.out k hlt wr HB.out
   have hcell := HC.out k hlt wr HB.out
   generalize F k = v at hcall hcell
   cases hp : p k with
   | true =>
    rw [hp] at hcall
    have HP := Lib.hid hp
    clear hp
    go_wp2_with (go_at_fn g; refine hcall.mono ?_; rintro e w' ⟨rfl, hb'⟩; have HB2 := Aside0.mk hb'; clear hb')
    go_ret
    exact ⟨by rw [firstIx_hit p n k hlt HP.out HF.out]; rfl, HB2.out⟩
   | false =>
    rw [hp] at hcall
    have HP := Lib.hid hp
    clear hp
    go_wp2_with (go_at_fn g; refine hcall.mono ?_; rintro e w' ⟨rfl, hb'⟩; have HB2 := Aside0.mk hb'; clear hb')
    go_roundg (n - (k + 1))
    case measure => omega
    case rel => exact ⟨k + 1, by omega, by omega, by go_num, HB2, ⟨fun j hj => by
     by_cases e : j = k
     ·subst e; exact HP.out
     ·exact HF.out j (by omega)⟩⟩
  ·have hltz : ¬ (k : Int) < (n : Int) := by omega
   have e : k = n := by omega
   subst e
   go_wp2
   go_ret
   exact ⟨by rw [firstIx_miss p k HF.out]; rfl, HB.out⟩
set_option maxHeartbeats 1000000 in
theorem has_byte (g : Nat) (lb : Array Value) (eg : ∀ args w, (callFunc g args).run Tryz.prog w = .ok (.enter g args) w)
  (n b c : Nat) (F : Nat → Value) (p : Nat → Bool) (w : World) (hn : n ≤ 140737488351232) (hb : b < w.heap.size)
  (hc : ∀ j, j < n → w.cell? ⟨b, j, none⟩ = some (F j))
  (hcl : ∀ j, j < n → ∀ W, Below w.heap.size w W → Calls Tryz.prog g (#[F j] ++ lb) W fun e W' => e = .returned (.bool (p j)) ∧ Below w.heap.size w W') :
  Calls Tryz.prog 28 #[.slice (some ⟨b, 0, none⟩) n c, .func (.func g) #[] lb] w fun e w' => e = .returned (.bool ((List.range n).any p)) ∧ Below w.heap.size w w' := by
 have hix := idx_byte g lb eg n b c F p w hn hb hc hcl
 have HE := Lib.hid (firstIx_any p n)
 generalize firstIx p n = q at hix HE
 clear hc hcl
 by_cases h0 : 0 ≤ q
 all_goals
  go_enter Tryz.func28, Tryz.ntmps28
  go_wp2_with (go_at_call 51; refine hix.mono ?_; rintro e w' ⟨rfl, hb'⟩; have HB2 := Aside0.mk hb'; clear hb')
  go_ret
  exact ⟨congrArg (fun b => Ending.returned (.bool b)) (by first | exact HE.out.symm | exact (HE.out.trans (decide_eq_true h0)).symm), HB2.out⟩
set_option maxHeartbeats 1000000 in
theorem idx_func (g : Nat) (lb : Array Value) (eg : ∀ args w, (callFunc g args).run Tryz.prog w = .ok (.enter g args) w)
  (n b c : Nat) (F : Nat → Value) (p : Nat → Bool) (w : World) (hn : n ≤ 140737488351232) (hb : b < w.heap.size)
  (hc : ∀ j, j < n → w.cell? ⟨b, j, none⟩ = some (F j))
  (hcl : ∀ j, j < n → ∀ W, Below w.heap.size w W → Calls Tryz.prog g (#[F j] ++ lb) W fun e W' => e = .returned (.bool (p j)) ∧ Below w.heap.size w W') :
  Calls Tryz.prog 90 #[.slice (some ⟨b, 0, none⟩) n c, .func (.func g) #[] lb] w fun e w' => e = .returned (.int .i64 (firstIx p n)) ∧ Below w.heap.size w w' := by
 have HC : Aside0 (∀ j, j < n → ∀ W, Below w.heap.size w W → W.cell? ⟨b, j, none⟩ = some (F j)) := ⟨fun j hj W hW => (hW.cell (p := ⟨b, j, none⟩) hb).trans (hc j hj)⟩
 have HCL := Aside0.mk hcl
 clear hc hcl
 go_enter Tryz.func90, Tryz.ntmps90
 go_wp2
 go_loopg [8] n (fun gk i wr => ∃ k : Nat, k ≤ n ∧ n - k ≤ gk ∧ i = .int .i64 k ∧ Aside0 (Below w.heap.size w wr) ∧ Aside0 (∀ j, j < k → p j = false))
 case atStart => exact ⟨0, by omega, by omega, rfl, ⟨Below.refl _ _⟩, ⟨fun j h => absurd h (Nat.not_lt_zero _)⟩⟩
 case round =>
  obtain ⟨k, hk, hg, rfl, HB, HF⟩ := hrel
  by_cases hlt : k < n
  ·have hltz : (k : Int) < (n : Int) := by omega
   have hcall := HCL.out k hlt wr HB.out
   have hcell := HC.out k hlt wr HB.out
   generalize F k = v at hcall hcell
   cases hp : p k with
   | true =>
    rw [hp] at hcall
    have HP := Lib.hid hp
    clear hp
    go_wp2_with (go_at_fn g; refine hcall.mono ?_; rintro e w' ⟨rfl, hb'⟩; have HB2 := Aside0.mk hb'; clear hb')
    go_ret
    exact ⟨by rw [firstIx_hit p n k hlt HP.out HF.out]; rfl, HB2.out⟩
   | false =>
    rw [hp] at hcall
    have HP := Lib.hid hp
    clear hp
    go_wp2_with (go_at_fn g; refine hcall.mono ?_; rintro e w' ⟨rfl, hb'⟩; have HB2 := Aside0.mk hb'; clear hb')
    go_roundg (n - (k + 1))
    case measure => omega
    case rel => exact ⟨k + 1, by omega, by omega, by go_num, HB2, ⟨fun j hj => by
     by_cases e : j = k
     ·subst e; exact HP.out
     ·exact HF.out j (by omega)⟩⟩
  ·have hltz : ¬ (k : Int) < (n : Int) := by omega
   have e : k = n := by omega
   subst e
   go_wp2
   go_ret
   exact ⟨by rw [firstIx_miss p k HF.out]; rfl, HB.out⟩
set_option maxHeartbeats 1000000 in
theorem has_func (g : Nat) (lb : Array Value) (eg : ∀ args w, (callFunc g args).run Tryz.prog w = .ok (.enter g args) w)
  (n b c : Nat) (F : Nat → Value) (p : Nat → Bool) (w : World) (hn : n ≤ 140737488351232) (hb : b < w.heap.size)
  (hc : ∀ j, j < n → w.cell? ⟨b, j, none⟩ = some (F j))
  (hcl : ∀ j, j < n → ∀ W, Below w.heap.size w W → Calls Tryz.prog g (#[F j] ++ lb) W fun e W' => e = .returned (.bool (p j)) ∧ Below w.heap.size w W') :
  Calls Tryz.prog 75 #[.slice (some ⟨b, 0, none⟩) n c, .func (.func g) #[] lb] w fun e w' => e = .returned (.bool ((List.range n).any p)) ∧ Below w.heap.size w w' := by
 have hix := idx_func g lb eg n b c F p w hn hb hc hcl
 have HE := Lib.hid (firstIx_any p n)
 generalize firstIx p n = q at hix HE
 clear hc hcl
 by_cases h0 : 0 ≤ q
 all_goals
  go_enter Tryz.func75, Tryz.ntmps75
  go_wp2_with (go_at_call 90; refine hix.mono ?_; rintro e w' ⟨rfl, hb'⟩; have HB2 := Aside0.mk hb'; clear hb')
  go_ret
  exact ⟨congrArg (fun b => Ending.returned (.bool b)) (by first | exact HE.out.symm | exact (HE.out.trans (decide_eq_true h0)).symm), HB2.out⟩
set_option maxHeartbeats 1000000 in
theorem idx_param (g : Nat) (lb : Array Value) (eg : ∀ args w, (callFunc g args).run Tryz.prog w = .ok (.enter g args) w)
  (n c : Nat) (ad : Addr) (F : Nat → Value) (p : Nat → Bool) (w : World) (hn : n ≤ 140737488351232) (hb : 0 < n → ad.block < w.heap.size)
  (hc : ∀ j, j < n → ∃ u v, F j = .agg #[u, v] ∧ w.cell? (ad.add (j * 2)) = some u ∧ w.cell? ⟨(ad.add (j * 2)).block, (ad.add (j * 2)).off + 1, none⟩ = some v)
  (hcl : ∀ j, j < n → ∀ W, Below w.heap.size w W → Calls Tryz.prog g (#[F j] ++ lb) W fun e W' => e = .returned (.bool (p j)) ∧ Below w.heap.size w W') :
  Calls Tryz.prog 72 #[.slice (some ad) n c, .func (.func g) #[] lb] w fun e w' => e = .returned (.int .i64 (firstIx p n)) ∧ Below w.heap.size w w' := by
 have HC : Aside0 (∀ j, j < n → ∀ W, Below w.heap.size w W → ∃ u v, F j = .agg #[u, v] ∧ W.cell? (ad.add (j * 2)) = some u ∧ W.cell? ⟨(ad.add (j * 2)).block, (ad.add (j * 2)).off + 1, none⟩ = some v) := ⟨fun j hj W hW => by obtain ⟨u, v, e, h1, h2⟩ := hc j hj; exact ⟨u, v, e, (hW.cell (World.block_lt_of_cell? _ _ h1)).trans h1, (hW.cell (World.block_lt_of_cell? _ _ h2)).trans h2⟩⟩
 have HCL := Aside0.mk hcl
 clear hc hcl
 go_enter Tryz.func72, Tryz.ntmps72
 go_wp2
 go_loopg [8] n (fun gk i wr => ∃ k : Nat, k ≤ n ∧ n - k ≤ gk ∧ i = .int .i64 k ∧ Aside0 (Below w.heap.size w wr) ∧ Aside0 (∀ j, j < k → p j = false))
 case atStart => exact ⟨0, by omega, by omega, rfl, ⟨Below.refl _ _⟩, ⟨fun j h => absurd h (Nat.not_lt_zero _)⟩⟩
 case round =>
  obtain ⟨k, hk, hg, rfl, HB, HF⟩ := hrel
  by_cases hlt : k < n
  ·have hltz : (k : Int) < (n : Int) := by omega
   have hcall := HCL.out k hlt wr HB.out
   have hcell := HC.out k hlt wr HB.out
   obtain ⟨u, v, hF, hcell0, hcell1⟩ := hcell
   rw [hF] at hcall
   clear hF
   cases hp : p k with
   | true =>
    rw [hp] at hcall
    have HP := Lib.hid hp
    clear hp
    go_wp2_with (go_at_fn g; refine hcall.mono ?_; rintro e w' ⟨rfl, hb'⟩; have HB2 := Aside0.mk hb'; clear hb')
    go_ret
    exact ⟨by rw [firstIx_hit p n k hlt HP.out HF.out]; rfl, HB2.out⟩
   | false =>
    rw [hp] at hcall
    have HP := Lib.hid hp
    clear hp
    go_wp2_with (go_at_fn g; refine hcall.mono ?_; rintro e w' ⟨rfl, hb'⟩; have HB2 := Aside0.mk hb'; clear hb')
    go_roundg (n - (k + 1))
    case measure => omega
    case rel => exact ⟨k + 1, by omega, by omega, by go_num, HB2, ⟨fun j hj => by
     by_cases e : j = k
     ·subst e; exact HP.out
     ·exact HF.out j (by omega)⟩⟩
  ·have hltz : ¬ (k : Int) < (n : Int) := by omega
   have e : k = n := by omega
   subst e
   go_wp2
   go_ret
   exact ⟨by rw [firstIx_miss p k HF.out]; rfl, HB.out⟩
set_option maxHeartbeats 1000000 in
theorem has_param (g : Nat) (lb : Array Value) (eg : ∀ args w, (callFunc g args).run Tryz.prog w = .ok (.enter g args) w)
  (n c : Nat) (ad : Addr) (F : Nat → Value) (p : Nat → Bool) (w : World) (hn : n ≤ 140737488351232) (hb : 0 < n → ad.block < w.heap.size)
  (hc : ∀ j, j < n → ∃ u v, F j = .agg #[u, v] ∧ w.cell? (ad.add (j * 2)) = some u ∧ w.cell? ⟨(ad.add (j * 2)).block, (ad.add (j * 2)).off + 1, none⟩ = some v)
  (hcl : ∀ j, j < n → ∀ W, Below w.heap.size w W → Calls Tryz.prog g (#[F j] ++ lb) W fun e W' => e = .returned (.bool (p j)) ∧ Below w.heap.size w W') :
  Calls Tryz.prog 56 #[.slice (some ad) n c, .func (.func g) #[] lb] w fun e w' => e = .returned (.bool ((List.range n).any p)) ∧ Below w.heap.size w w' := by
 have hix := idx_param g lb eg n c ad F p w hn hb hc hcl
 have HE := Lib.hid (firstIx_any p n)
 generalize firstIx p n = q at hix HE
 clear hc hcl
 by_cases h0 : 0 ≤ q
 all_goals
  go_enter Tryz.func56, Tryz.ntmps56
  go_wp2_with (go_at_call 72; refine hix.mono ?_; rintro e w' ⟨rfl, hb'⟩; have HB2 := Aside0.mk hb'; clear hb')
  go_ret
  exact ⟨congrArg (fun b => Ending.returned (.bool b)) (by first | exact HE.out.symm | exact (HE.out.trans (decide_eq_true h0)).symm), HB2.out⟩
end Go.Proofs.YtljkopbalejcgaaGreatDoor.P
end
section
namespace Go.Proofs.YtljkopbalejcgaaGreatDoor.P
open Go.RowKit Go.Proofs.YtljkopbalejcgaaGreatDoorW.PrintWords Go.Proofs.YtljkopbalejcgaaGreatDoorW.PrintLast Go.Proofs.YtljkopbalejcgaaGreatDoorW.PrintMore
attribute [local go_sem] max2_int min2_int max_two min_two max_three min_three max_four min_four
set_option linter.unusedVariables false
set_option linter.unusedSimpArgs false
open Go Go.Lib
set_option maxHeartbeats 1000000 in
theorem parse1_calls (B0 B1 : Nat) (s : ByteArray) (at_ : Nat) (hat : at_ ≤ s.size) (hs : s.size ≤ 140737488351232) (f : Nat) (ef : ∀ args w, (callFunc f args).run Tryz.prog w = .ok (.enter f args) w)
  (r : Bool) (hf : ∀ W, Calls Tryz.prog f #[.string (s.extract 0 at_)] W fun e w' => e = .returned (.bool r) ∧ Below W.heap.size W w')
  (W : World) (h0 : W.cell? ⟨B0, 0, none⟩ = some (.string s)) (h1 : W.cell? ⟨B1, 0, none⟩ = some (.int .i64 at_)) :
  Calls Tryz.prog 76 (#[.func (.func f) #[] #[]] ++ #[.pointer (some ⟨B0, 0, none⟩), .pointer (some ⟨B1, 0, none⟩)]) W fun e w' => e = .returned (.bool r) ∧ Below W.heap.size W w' := by
 have hz : (0 : Int) ≤ (at_ : Int) ∧ (at_ : Int) ≤ (s.size : Int) := by omega
 go_enter Tryz.func76, Tryz.ntmps76
 go_wp2_with (go_at_fn f; refine (hf _).mono ?_; rintro e w' ⟨rfl, hb⟩)
 go_ret
 exact ⟨rfl, hb⟩
theorem lastAt_eq (s : ByteArray) : Lib.lastIndexByte s 64 = lastAt s.data.toList := rfl
theorem lastAt_lt (s : ByteArray) (h : 0 ≤ lastAt s.data.toList) : lastAt s.data.toList < (s.size : Int) := by
 rcases Lib.lastIdx_spec s 64 s.size with ⟨h1, _⟩ | ⟨i, hi, h1, _⟩
 ·have : lastAt s.data.toList = -1 := h1
  omega
 ·have : lastAt s.data.toList = i := h1
  omega
set_option maxHeartbeats 2000000 in
theorem parse_no1 (s : ByteArray) (w : World) (hs : s.size ≤ 140737488351232) (h : lastAt s.data.toList < 1 ∨ 64 < lastAt s.data.toList ∨ Lib.hasSuffix s.data.toList [46] = true) :
  Calls Tryz.prog 58 #[.string s] w fun e w' => e = .returned (.tuple #[.string ⟨#[]⟩, .string ⟨#[]⟩, .int .i64 4]) ∧ Below w.heap.size w w' := by
 have hla : ∀ W, Calls Tryz.prog 73 #[.string s, .int .u8 64] W fun e w' => e = .returned (.int .i64 (lastAt s.data.toList)) ∧ w' = W := fun W => Tryz.strings_LastIndexByte s 64 (by omega) W
 have hsf : ∀ W, Calls Tryz.prog 46 #[.string s, .string ⟨#[46]⟩] W fun e w' => e = .returned (.bool (Lib.hasSuffix s.data.toList [46])) ∧ w' = W := fun W => Tryz.strings_HasSuffix s ⟨#[46]⟩ W (by omega)
 generalize lastAt s.data.toList = q at hla h
 generalize Lib.hasSuffix s.data.toList [46] = sf at hsf h
 by_cases h0 : q < 1
 ·clear h
  go_enter Tryz.func58, Tryz.ntmps58
  go_wp2_with (first | (go_at_call 73; refine (hla _).mono ?_; rintro e w' ⟨rfl, hw⟩; obtain rfl := hw.symm; clear hw) | (go_at_call 74; refine (kinds_calls _).mono ?_; rintro e w' ⟨rfl, hw⟩; obtain rfl := hw.symm; clear hw) | (go_at_call 46; refine (hsf _).mono ?_; rintro e w' ⟨rfl, hw⟩; obtain rfl := hw.symm; clear hw))
  go_ret3
  exact ⟨rfl, by repeat (first | exact Below.refl _ _ | apply below_alloc)⟩
 by_cases h1 : 64 < q
 ·clear h
  go_enter Tryz.func58, Tryz.ntmps58
  go_wp2_with (first | (go_at_call 73; refine (hla _).mono ?_; rintro e w' ⟨rfl, hw⟩; obtain rfl := hw.symm; clear hw) | (go_at_call 74; refine (kinds_calls _).mono ?_; rintro e w' ⟨rfl, hw⟩; obtain rfl := hw.symm; clear hw) | (go_at_call 46; refine (hsf _).mono ?_; rintro e w' ⟨rfl, hw⟩; obtain rfl := hw.symm; clear hw))
  go_ret3
  exact ⟨rfl, by repeat (first | exact Below.refl _ _ | apply below_alloc)⟩
 ·have h2 : sf = true := (h.resolve_left h0).resolve_left h1
  subst h2
  clear h
  go_enter Tryz.func58, Tryz.ntmps58
  go_wp2_with (first | (go_at_call 73; refine (hla _).mono ?_; rintro e w' ⟨rfl, hw⟩; obtain rfl := hw.symm; clear hw) | (go_at_call 74; refine (kinds_calls _).mono ?_; rintro e w' ⟨rfl, hw⟩; obtain rfl := hw.symm; clear hw) | (go_at_call 46; refine (hsf _).mono ?_; rintro e w' ⟨rfl, hw⟩; obtain rfl := hw.symm; clear hw))
  go_ret3
  exact ⟨rfl, by repeat (first | exact Below.refl _ _ | apply below_alloc)⟩
set_option maxHeartbeats 2000000 in
theorem parse_rest (s : ByteArray) (w : World) (hs : s.size ≤ 140737488351232) (k : Nat) (hla : ∀ W, Calls Tryz.prog 73 #[.string s, .int .u8 64] W fun e w' => e = .returned (.int .i64 k) ∧ w' = W) (hk0 : 1 ≤ k) (hk : k ≤ 64) (hk2 : k < s.size)
  (hsf : ∀ W, Calls Tryz.prog 46 #[.string s, .string ⟨#[46]⟩] W fun e w' => e = .returned (.bool false) ∧ w' = W)
  (p0 p1 : Bool) (h0 : ∀ W, Calls Tryz.prog 88 #[.string (s.extract 0 k)] W fun e w' => e = .returned (.bool p0) ∧ Below W.heap.size W w')
  (h1 : ∀ W, Calls Tryz.prog 89 #[.string (s.extract 0 k)] W fun e w' => e = .returned (.bool p1) ∧ Below W.heap.size W w')
  (d : ByteArray) (ee : Int) (hfo : ∀ W, Calls Tryz.prog 77 #[.string (s.extract (k + 1) s.size)] W fun e w' => e = .returned (.tuple #[.string d, .int .i64 ee]) ∧ Below W.heap.size W w') :
  Calls Tryz.prog 58 #[.string s] w fun e w' => e = .returned (if p0 || p1 then (if ee = 0 then .tuple #[.string (s.extract 0 k), .string d, .int .i64 0] else .tuple #[.string ⟨#[]⟩, .string ⟨#[]⟩, .int .i64 4]) else .tuple #[.string ⟨#[]⟩, .string ⟨#[]⟩, .int .i64 4]) ∧ Below w.heap.size w w' := by
 have hcont : Calls Tryz.prog 75 #[.slice (some ⟨w.heap.size + 1 + 1 + 1, 0, none⟩) 2 2, .func (.func 76) #[] #[.pointer (some ⟨w.heap.size, 0, none⟩), .pointer (some ⟨w.heap.size + 1 + 1, 0, none⟩)]]
   ((((w.alloc (.cells #[.string s] 9)).alloc (.cells #[.func (.func 88) #[] #[], .func (.func 89) #[] #[]] 102)).alloc (.cells #[.int .i64 k] 3)).alloc (.cells #[.func (.func 88) #[] #[], .func (.func 89) #[] #[]] 102)) fun e w' => e = .returned (.bool (p0 || p1)) ∧ w'.cell? ⟨w.heap.size, 0, none⟩ = some (.string s) ∧ w'.cell? ⟨w.heap.size + 1 + 1, 0, none⟩ = some (.int .i64 k) ∧ Below w.heap.size w w' := by
  have g0 : ((((w.alloc (.cells #[.string s] 9)).alloc (.cells #[.func (.func 88) #[] #[], .func (.func 89) #[] #[]] 102)).alloc (.cells #[.int .i64 k] 3)).alloc (.cells #[.func (.func 88) #[] #[], .func (.func 89) #[] #[]] 102)).cell? ⟨w.heap.size, 0, none⟩ = some (.string s) := by go_simp
  have g1 : ((((w.alloc (.cells #[.string s] 9)).alloc (.cells #[.func (.func 88) #[] #[], .func (.func 89) #[] #[]] 102)).alloc (.cells #[.int .i64 k] 3)).alloc (.cells #[.func (.func 88) #[] #[], .func (.func 89) #[] #[]] 102)).cell? ⟨w.heap.size + 1 + 1, 0, none⟩ = some (.int .i64 k) := by go_simp
  have g2 : ((((w.alloc (.cells #[.string s] 9)).alloc (.cells #[.func (.func 88) #[] #[], .func (.func 89) #[] #[]] 102)).alloc (.cells #[.int .i64 k] 3)).alloc (.cells #[.func (.func 88) #[] #[], .func (.func 89) #[] #[]] 102)).cell? ⟨w.heap.size + 1 + 1 + 1, 0, none⟩ = some (.func (.func 88) #[] #[]) := by go_simp
  have g3 : ((((w.alloc (.cells #[.string s] 9)).alloc (.cells #[.func (.func 88) #[] #[], .func (.func 89) #[] #[]] 102)).alloc (.cells #[.int .i64 k] 3)).alloc (.cells #[.func (.func 88) #[] #[], .func (.func 89) #[] #[]] 102)).cell? ⟨w.heap.size + 1 + 1 + 1, 1, none⟩ = some (.func (.func 89) #[] #[]) := by go_simp
  have gb : Below w.heap.size w ((((w.alloc (.cells #[.string s] 9)).alloc (.cells #[.func (.func 88) #[] #[], .func (.func 89) #[] #[]] 102)).alloc (.cells #[.int .i64 k] 3)).alloc (.cells #[.func (.func 88) #[] #[], .func (.func 89) #[] #[]] 102)) := by repeat (first | exact Below.refl _ _ | apply below_alloc)
  have gs : w.heap.size + 1 + 1 + 1 < ((((w.alloc (.cells #[.string s] 9)).alloc (.cells #[.func (.func 88) #[] #[], .func (.func 89) #[] #[]] 102)).alloc (.cells #[.int .i64 k] 3)).alloc (.cells #[.func (.func 88) #[] #[], .func (.func 89) #[] #[]] 102)).heap.size := by simp
  generalize ((((w.alloc (.cells #[.string s] 9)).alloc (.cells #[.func (.func 88) #[] #[], .func (.func 89) #[] #[]] 102)).alloc (.cells #[.int .i64 k] 3)).alloc (.cells #[.func (.func 88) #[] #[], .func (.func 89) #[] #[]] 102)) = W4 at g0 g1 g2 g3 gb gs ⊢
  refine (has_func 76 _ (enters_of Tryz.func76 (by kernel_rfl) rfl) 2 (w.heap.size + 1 + 1 + 1) 2 (fun j => if j = 0 then .func (.func 88) #[] #[] else .func (.func 89) #[] #[]) (fun j => if j = 0 then p0 else p1) W4 (by omega) gs ?_ ?_).mono ?_
  ·intro j hj
   by_cases e : j = 0
   ·subst e; exact g2
   ·have e1 : j = 1 := by omega
    subst e1; exact g3
  ·intro j hj W hW
   have c0 := (hW.cell (World.block_lt_of_cell? _ _ g0)).trans g0
   have c1 := (hW.cell (World.block_lt_of_cell? _ _ g1)).trans g1
   by_cases e : j = 0
   ·subst e
    exact (parse1_calls w.heap.size (w.heap.size + 1 + 1) s k (by omega) hs 88 (enters_of Tryz.func88 (by kernel_rfl) rfl) p0 h0 W c0 c1).mono fun e W' ⟨he, hb⟩ => ⟨he, below_then hW hW.size hb⟩
   ·have e1 : j = 1 := by omega
    subst e1
    exact (parse1_calls w.heap.size (w.heap.size + 1 + 1) s k (by omega) hs 89 (enters_of Tryz.func89 (by kernel_rfl) rfl) p1 h1 W c0 c1).mono fun e W' ⟨he, hb⟩ => ⟨he, below_then hW hW.size hb⟩
  ·rintro e w' ⟨rfl, hb⟩
   exact ⟨by cases p0 <;> cases p1 <;> rfl, (hb.cell (World.block_lt_of_cell? _ _ g0)).trans g0, (hb.cell (World.block_lt_of_cell? _ _ g1)).trans g1, below_then gb gb.size hb⟩
 have hz : (0 : Int) ≤ (k : Int) + 1 ∧ (k : Int) + 1 ≤ (s.size : Int) ∧ ((k : Int) + 1).toNat = k + 1 := by omega
 generalize (p0 || p1) = p at hcont ⊢
 clear h0 h1
 cases p with
 | false =>
  go_enter Tryz.func58, Tryz.ntmps58
  go_wp2_with (first | (go_at_call 73; refine (hla _).mono ?_; rintro e w' ⟨rfl, hw⟩; obtain rfl := hw.symm; clear hw) | (go_at_call 74; refine (kinds_calls _).mono ?_; rintro e w' ⟨rfl, hw⟩; obtain rfl := hw.symm; clear hw) | (go_at_call 46; refine (hsf _).mono ?_; rintro e w' ⟨rfl, hw⟩; obtain rfl := hw.symm; clear hw) | (go_at_call 75; refine hcont.mono ?_; rintro e w2 ⟨rfl, c0, c1, hb2⟩; have HB2 := Aside0.mk hb2; clear hb2))
  go_ret3
  exact ⟨rfl, HB2.out⟩
 | true =>
  by_cases h4 : ee = 0
  ·subst h4
   go_enter Tryz.func58, Tryz.ntmps58
   go_wp2_with (first | (go_at_call 73; refine (hla _).mono ?_; rintro e w' ⟨rfl, hw⟩; obtain rfl := hw.symm; clear hw) | (go_at_call 74; refine (kinds_calls _).mono ?_; rintro e w' ⟨rfl, hw⟩; obtain rfl := hw.symm; clear hw) | (go_at_call 46; refine (hsf _).mono ?_; rintro e w' ⟨rfl, hw⟩; obtain rfl := hw.symm; clear hw) | (go_at_call 75; refine hcont.mono ?_; rintro e w2 ⟨rfl, c0, c1, hb2⟩; have HB2 := Aside0.mk hb2; clear hb2) | (go_at_call 77; refine (hfo _).mono ?_; rintro e w3 ⟨rfl, hb3⟩; have c2 := (hb3.cell (World.block_lt_of_cell? _ _ c0)).trans c0; have c3 := (hb3.cell (World.block_lt_of_cell? _ _ c1)).trans c1; have HB3 := Aside0.mk (below_then HB2.out HB2.out.size hb3); clear hb3))
   go_ret3
   exact ⟨rfl, HB3.out⟩
  ·have h4' : (ee == 0) = false := by simpa using h4
   have h4'' : (ee != 0) = true := by simpa using h4
   rw [if_neg h4]
   go_enter Tryz.func58, Tryz.ntmps58
   go_wp2_with (first | (go_at_call 73; refine (hla _).mono ?_; rintro e w' ⟨rfl, hw⟩; obtain rfl := hw.symm; clear hw) | (go_at_call 74; refine (kinds_calls _).mono ?_; rintro e w' ⟨rfl, hw⟩; obtain rfl := hw.symm; clear hw) | (go_at_call 46; refine (hsf _).mono ?_; rintro e w' ⟨rfl, hw⟩; obtain rfl := hw.symm; clear hw) | (go_at_call 75; refine hcont.mono ?_; rintro e w2 ⟨rfl, c0, c1, hb2⟩; have HB2 := Aside0.mk hb2; clear hb2) | (go_at_call 77; refine (hfo _).mono ?_; rintro e w3 ⟨rfl, hb3⟩; have c2 := (hb3.cell (World.block_lt_of_cell? _ _ c0)).trans c0; have c3 := (hb3.cell (World.block_lt_of_cell? _ _ c1)).trans c1; have HB3 := Aside0.mk (below_then HB2.out HB2.out.size hb3); clear hb3))
   go_ret3
   exact ⟨rfl, HB3.out⟩
def addr_Parse.f (a : ByteArray) : Option (ByteArray × ByteArray × Int) := if a.size ≤ 140737488351232 then some (match addrParse a.data.toList with
 | some (l, d) => (⟨l.toArray⟩, ⟨d.toArray⟩, 0)
 | none => (⟨#[]⟩, ⟨#[]⟩, 4)) else none
theorem addr_Parse.calls (a : ByteArray) (r1 : ByteArray) (r2 : ByteArray) (r3 : Int) (w : World) (h : addr_Parse.f a = some (r1, r2, r3)) :
  Calls Tryz.prog 58 #[.string a] w fun e w' => e = .returned (.tuple #[.string r1, .string r2, .int .i64 r3]) ∧ Below w.heap.size w w' := by
 unfold addr_Parse.f at h
 split at h
 ·rename_i hs
  obtain h := Option.some.inj h
  unfold addrParse at h
  by_cases hno : lastAt a.data.toList < 1 ∨ 64 < lastAt a.data.toList ∨ Lib.hasSuffix a.data.toList [46] = true
  ·rw [if_pos hno] at h
   simp only [Prod.mk.injEq] at h
   obtain ⟨rfl, rfl, rfl⟩ := h
   exact parse_no1 a w hs hno
  ·rw [if_neg hno] at h
   have hlt := lastAt_lt a (by omega)
   obtain ⟨k, hk⟩ : ∃ k : Nat, lastAt a.data.toList = k := ⟨(lastAt a.data.toList).toNat, by omega⟩
   rw [hk] at h hlt hno
   rw [show ((k : Int)).toNat = k by omega] at h
   have hsf : Lib.hasSuffix a.data.toList [46] = false := by
    cases hb : Lib.hasSuffix a.data.toList [46] with
    | true => exact absurd (.inr (.inr hb)) hno
    | false => rfl
   have hex : (a.extract 0 k).data.toList = a.data.toList.take k := by rw [Lib.extract_data]; simp
   have hle : (a.extract 0 k).size ≤ 140737488351232 := by rw [← len_eq, hex, List.length_take, len_eq]; omega
   have hex2 : (a.extract (k + 1) a.size).data.toList = a.data.toList.drop (k + 1) := Lib.extract_to_end a (k + 1)
   have hle2 : (a.extract (k + 1) a.size).size ≤ 140737488351232 := by rw [← len_eq, hex2, List.length_drop, len_eq]; omega
   have hf : ∀ W, Calls Tryz.prog 77 #[.string (a.extract (k + 1) a.size)] W fun e w' => e = .returned (.tuple #[.string (match foldName (a.data.toList.drop (k + 1)) with | some l => ⟨l.toArray⟩ | none => ⟨#[]⟩), .int .i64 (match foldName (a.data.toList.drop (k + 1)) with | some l => 0 | none => 4)]) ∧ Below W.heap.size W w' := fun W =>
    name_Fold.calls _ _ _ W (by unfold name_Fold.f; rw [if_pos hle2, hex2]; cases foldName (a.data.toList.drop (k + 1)) <;> rfl)
   have hp := parse_rest a w hs k (fun W => by have := Tryz.strings_LastIndexByte a 64 (by omega) W; rw [lastAt_eq, hk] at this; exact this) (by omega) (by omega) (by omega)
    (fun W => by have := Tryz.strings_HasSuffix a ⟨#[46]⟩ W (by omega); rw [show Lib.hasSuffix a.data.toList (⟨#[46]⟩ : ByteArray).data.toList = false from hsf] at this; exact this)
    (atomsOk (a.data.toList.take k)) (quotedOk (a.data.toList.take k)) (fun W => by rw [← hex]; exact atoms_calls _ W hle) (fun W => by rw [← hex]; exact quoted_calls _ W hle) _ _ hf
   rw [show (atomsOk (a.data.toList.take k) || quotedOk (a.data.toList.take k)) = localOk (a.data.toList.take k) from rfl] at hp
   cases hl : localOk (a.data.toList.take k) with
   | false =>
    rw [hl] at h hp
    simp only [if_true, Prod.mk.injEq] at h
    obtain ⟨rfl, rfl, rfl⟩ := h
    exact hp
   | true =>
    rw [hl] at h hp
    simp only [Bool.true_eq_false, if_false] at h
    cases hfo : foldName (a.data.toList.drop (k + 1)) with
    | none =>
     rw [hfo] at h hp
     simp only [Prod.mk.injEq] at h
     obtain ⟨rfl, rfl, rfl⟩ := h
     exact hp
    | some d =>
     rw [hfo] at h hp
     simp only [Prod.mk.injEq] at h
     obtain ⟨rfl, rfl, rfl⟩ := h
     rw [show a.extract 0 k = ⟨(a.data.toList.take k).toArray⟩ by rw [Lib.extract_eq]; simp] at hp
     exact hp
 ·simp at h
end Go.Proofs.YtljkopbalejcgaaGreatDoor.P
end
section
namespace Go.Proofs.YtljkopbalejcgaaGreatDoor.P
open Go.RowKit Go.Proofs.YtljkopbalejcgaaGreatDoorW.PrintWords Go.Proofs.YtljkopbalejcgaaGreatDoorW.PrintLast Go.Proofs.YtljkopbalejcgaaGreatDoorW.PrintMore
attribute [local go_sem] max2_int min2_int max_two min_two max_three min_three max_four min_four
set_option linter.unusedVariables false
set_option linter.unusedSimpArgs false
def addr_May.f (a0 : ByteArray) : Option (Bool) := (addr_Parse.f a0).bind fun bt101 => (some (bt101.2.2 == 0))
set_option maxHeartbeats 8000000 in
set_option maxRecDepth 100000 in
theorem addr_May.calls (a0 : ByteArray) (r : Bool) (w : World) (h : addr_May.f a0 = some r) :
  Calls Tryz.prog 37 #[.string a0] w fun e w' => e = .returned (.bool r) ∧ Below w.heap.size w w' := by
 have HB := Aside0.mk (Below.refl w.heap.size w)
 have H : ((addr_Parse.f a0).bind fun bt101 => (some (bt101.2.2 == 0))) = some r := h
 clear h
 replace H := Option.bind_eq_some_iff.mp H
 obtain ⟨⟨t101, t102, t103⟩, A20, H⟩ := H
 replace H : (some (t103 == 0)) = some r := H
 have A2 := Aside0.mk A20
 clear A20
 obtain rfl := Option.some.inj H
 go_enter Tryz.func37, Tryz.ntmps37
 go_wp2_with (first | ((with_reducible refine gate_callee (f := 58) rfl ?_); refine goesL_ (some 8) rfl rfl Tryz.func58 (by kernel_rfl) rfl #[.string a0] rfl (by (try simp only [List.map_toArray, List.map_cons, List.map_nil]); first | done | rfl | (simp only [List.length_drop, List.length_take]; rfl)) ?_; (with_reducible refine (addr_Parse.calls a0 t101 t102 t103 _ A2.out).mono ?_); rintro e w3 ⟨rfl, hb⟩; refine ⟨_, rfl, ?_⟩; have n0_ := Aside0.mk (below_step (by repeat (first | (with_reducible first | exact HB.out | apply below_alloc | apply pw_below_drewN | apply below_drew1) | exact HB.out)) hb); clear HB; have HB := n0_; clear n0_; (try clear hb); (try clear hb2); (try clear hk); (try clear hi)))
 go_ret
 exact ⟨by first | rfl | (simp [errW_none, errW_some] <;> rfl) | (simp [*, errW_none, errW_some] <;> rfl), by repeat (first | (with_reducible first | exact HB.out | apply below_alloc | apply pw_below_drewN | apply below_drew1) | exact HB.out)⟩
end Go.Proofs.YtljkopbalejcgaaGreatDoor.P
end
section
namespace Go.Proofs.YtljkopbalejcgaaGreatDoor.P
open Go.RowKit Go.Proofs.YtljkopbalejcgaaGreatDoorW.PrintWords Go.Proofs.YtljkopbalejcgaaGreatDoorW.PrintLast Go.Proofs.YtljkopbalejcgaaGreatDoorW.PrintMore
attribute [local go_sem] max2_int min2_int max_two min_two max_three min_three max_four min_four
set_option linter.unusedVariables false
set_option linter.unusedSimpArgs false
def addr_Path.f (a0 : ByteArray) : Option (ByteArray) := if a0.toList = ([] : List UInt8) then (if 1 + a0.size ≤ 9223372036854775807 then (if ((⟨#[60]⟩ : ByteArray) ++ a0).size + 1 ≤ 9223372036854775807 then (some (((⟨#[60]⟩ : ByteArray) ++ a0) ++ (⟨#[62]⟩ : ByteArray))) else (none)) else (none)) else ((addr_May.f a0).bind fun t104 => (if t104 = true then (if 1 + a0.size ≤ 9223372036854775807 then (if ((⟨#[60]⟩ : ByteArray) ++ a0).size + 1 ≤ 9223372036854775807 then (some (((⟨#[60]⟩ : ByteArray) ++ a0) ++ (⟨#[62]⟩ : ByteArray))) else (none)) else (none)) else (some (⟨#[]⟩ : ByteArray))))
set_option maxHeartbeats 8000000 in
set_option maxRecDepth 100000 in
theorem addr_Path.calls (a0 : ByteArray) (r : ByteArray) (w : World) (h : addr_Path.f a0 = some r) :
  Calls Tryz.prog 33 #[.string a0] w fun e w' => e = .returned (.string r) ∧ Below w.heap.size w w' := by
 have HB := Aside0.mk (Below.refl w.heap.size w)
 have H : (if a0.toList = ([] : List UInt8) then (if 1 + a0.size ≤ 9223372036854775807 then (if ((⟨#[60]⟩ : ByteArray) ++ a0).size + 1 ≤ 9223372036854775807 then (some (((⟨#[60]⟩ : ByteArray) ++ a0) ++ (⟨#[62]⟩ : ByteArray))) else (none)) else (none)) else ((addr_May.f a0).bind fun t104 => (if t104 = true then (if 1 + a0.size ≤ 9223372036854775807 then (if ((⟨#[60]⟩ : ByteArray) ++ a0).size + 1 ≤ 9223372036854775807 then (some (((⟨#[60]⟩ : ByteArray) ++ a0) ++ (⟨#[62]⟩ : ByteArray))) else (none)) else (none)) else (some (⟨#[]⟩ : ByteArray))))) = some r := h
 clear h
 by_cases c2 : a0.toList = ([] : List UInt8)
 ·rw [if_pos c2] at H
  have c2b0 : (a0.toList == ([] : List UInt8)) = true := beq_iff_eq.mpr c2
  have c2b1 : (a0.toList != ([] : List UInt8)) = false := bne_eq_false_iff_eq.mpr c2
  clear c2
  by_cases c3 : 1 + a0.size ≤ 9223372036854775807
  ·rw [if_pos c3] at H
   have c3b0 := eq_true c3
   have c3b1 : decide (1 + a0.size ≤ 9223372036854775807) = true := decide_eq_true c3
   try have c3b2 : (9223372036854775807 < 1 + a0.size) = False := eq_false (Nat.not_lt.2 c3)
   by_cases c4 : ((⟨#[60]⟩ : ByteArray) ++ a0).size + 1 ≤ 9223372036854775807
   ·rw [if_pos c4] at H
    have c4b0 := eq_true c4
    have c4b1 : decide (((⟨#[60]⟩ : ByteArray) ++ a0).size + 1 ≤ 9223372036854775807) = true := decide_eq_true c4
    try have c4b2 : (9223372036854775807 < ((⟨#[60]⟩ : ByteArray) ++ a0).size + 1) = False := eq_false (Nat.not_lt.2 c4)
    try (have c4b3 := c4b2; simp only [ByteArray.size_append, show (⟨#[60]⟩ : ByteArray).size = 1 from rfl] at c4b3)
    obtain rfl := Option.some.inj H
    go_enter Tryz.func33, Tryz.ntmps33
    go_wp2
    go_ret
    exact ⟨by first | rfl | (simp [errW_none, errW_some] <;> rfl) | (simp [*, errW_none, errW_some] <;> rfl), by repeat (first | (with_reducible first | exact HB.out | apply below_alloc | apply pw_below_drewN | apply below_drew1) | exact HB.out)⟩
   ·rw [if_neg c4] at H
    exact absurd H (by simp)
  ·rw [if_neg c3] at H
   exact absurd H (by simp)
 ·rw [if_neg c2] at H
  have c2b0 : (a0.toList == ([] : List UInt8)) = false := beq_eq_false_iff_ne.mpr c2
  have c2b1 : (a0.toList != ([] : List UInt8)) = true := bne_iff_ne.mpr c2
  replace H := Option.bind_eq_some_iff.mp H
  obtain ⟨t104, A50, H⟩ := H
  replace H : (if t104 = true then (if 1 + a0.size ≤ 9223372036854775807 then (if ((⟨#[60]⟩ : ByteArray) ++ a0).size + 1 ≤ 9223372036854775807 then (some (((⟨#[60]⟩ : ByteArray) ++ a0) ++ (⟨#[62]⟩ : ByteArray))) else (none)) else (none)) else (some (⟨#[]⟩ : ByteArray))) = some r := H
  have A5 := Aside0.mk A50
  clear A50
  by_cases c6 : t104 = true
  ·subst c6
   have H1 : (if 1 + a0.size ≤ 9223372036854775807 then (if ((⟨#[60]⟩ : ByteArray) ++ a0).size + 1 ≤ 9223372036854775807 then (some (((⟨#[60]⟩ : ByteArray) ++ a0) ++ (⟨#[62]⟩ : ByteArray))) else (none)) else (none)) = some r := by rw [if_pos rfl] at H; exact H
   clear H
   have H := H1
   clear H1
   by_cases c7 : 1 + a0.size ≤ 9223372036854775807
   ·rw [if_pos c7] at H
    have c7b0 := eq_true c7
    have c7b1 : decide (1 + a0.size ≤ 9223372036854775807) = true := decide_eq_true c7
    try have c7b2 : (9223372036854775807 < 1 + a0.size) = False := eq_false (Nat.not_lt.2 c7)
    by_cases c8 : ((⟨#[60]⟩ : ByteArray) ++ a0).size + 1 ≤ 9223372036854775807
    ·rw [if_pos c8] at H
     have c8b0 := eq_true c8
     have c8b1 : decide (((⟨#[60]⟩ : ByteArray) ++ a0).size + 1 ≤ 9223372036854775807) = true := decide_eq_true c8
     try have c8b2 : (9223372036854775807 < ((⟨#[60]⟩ : ByteArray) ++ a0).size + 1) = False := eq_false (Nat.not_lt.2 c8)
     try (have c8b3 := c8b2; simp only [ByteArray.size_append, show (⟨#[60]⟩ : ByteArray).size = 1 from rfl] at c8b3)
     obtain rfl := Option.some.inj H
     go_enter Tryz.func33, Tryz.ntmps33
     go_wp2_with (first | (go_at_call 37; (with_reducible refine (addr_May.calls a0 true _ A5.out).mono ?_); rintro e w9 ⟨rfl, hb⟩; have n0_ := Aside0.mk (below_step (by repeat (first | (with_reducible first | exact HB.out | apply below_alloc | apply pw_below_drewN | apply below_drew1) | exact HB.out)) hb); clear HB; have HB := n0_; clear n0_; (try clear hb); (try clear hb2); (try clear hk); (try clear hi)))
     go_ret
     exact ⟨by first | rfl | (simp [errW_none, errW_some] <;> rfl) | (simp [*, errW_none, errW_some] <;> rfl), by repeat (first | (with_reducible first | exact HB.out | apply below_alloc | apply pw_below_drewN | apply below_drew1) | exact HB.out)⟩
    ·rw [if_neg c8] at H
     exact absurd H (by simp)
   ·rw [if_neg c7] at H
    exact absurd H (by simp)
  ·replace c6 := Bool.eq_false_iff.mpr c6
   subst c6
   have H1 : (some (⟨#[]⟩ : ByteArray)) = some r := by rw [if_neg (show ¬ (false = true) by decide)] at H; exact H
   clear H
   have H := H1
   clear H1
   obtain rfl := Option.some.inj H
   go_enter Tryz.func33, Tryz.ntmps33
   go_wp2_with (first | (go_at_call 37; (with_reducible refine (addr_May.calls a0 false _ A5.out).mono ?_); rintro e w10 ⟨rfl, hb⟩; have n0_ := Aside0.mk (below_step (by repeat (first | (with_reducible first | exact HB.out | apply below_alloc | apply pw_below_drewN | apply below_drew1) | exact HB.out)) hb); clear HB; have HB := n0_; clear n0_; (try clear hb); (try clear hb2); (try clear hk); (try clear hi)))
   go_ret
   exact ⟨by first | rfl | (simp [errW_none, errW_some] <;> rfl) | (simp [*, errW_none, errW_some] <;> rfl), by repeat (first | (with_reducible first | exact HB.out | apply below_alloc | apply pw_below_drewN | apply below_drew1) | exact HB.out)⟩
end Go.Proofs.YtljkopbalejcgaaGreatDoor.P
end
