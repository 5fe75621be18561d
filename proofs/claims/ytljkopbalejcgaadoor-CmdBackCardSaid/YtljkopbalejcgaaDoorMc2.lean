/- Words, walks and plain laws of the statement that the last of these texts proves. -/
import Derived.Test.YtljkopbalejcgaaDoorMc1
section
namespace Go.Proofs.YtljkopbalejcgaaDoor.P
open Go.RowKit Go.Proofs.YtljkopbalejcgaaDoorW.PrintWords Go.Proofs.YtljkopbalejcgaaDoorW.PrintLast Go.Proofs.YtljkopbalejcgaaDoorW.PrintMore
attribute [local go_sem] max2_int min2_int max_two min_two max_three min_three max_four min_four
set_option linter.unusedVariables false
set_option linter.unusedSimpArgs false
def stringslite_CutPrefix.f (a0 : ByteArray) (a1 : ByteArray) : Option (ByteArray × Bool) := (stringslite_HasPrefix.f a0 a1).bind fun t122 => (if t122 = true then (if 0 ≤ (a1.size : Int) then (if (a1.size : Int) ≤ (a0.size : Int) then (some (a0.extract ((a1.size : Int) : Int).toNat a0.size, true)) else (none)) else (none)) else (some (a0, false)))
set_option maxHeartbeats 8000000 in
set_option maxRecDepth 100000 in
theorem stringslite_CutPrefix.calls (a0 : ByteArray) (a1 : ByteArray) (r1 : ByteArray) (r2 : Bool) (w : World) (h : stringslite_CutPrefix.f a0 a1 = some (r1, r2)) :
  Calls Tryd.prog 54 #[.string a0, .string a1] w fun e w' => e = .returned (.tuple #[.string r1, .bool r2]) ∧ Drawn0 w w' := by
 have H : ((stringslite_HasPrefix.f a0 a1).bind fun t122 => (if t122 = true then (if 0 ≤ (a1.size : Int) then (if (a1.size : Int) ≤ (a0.size : Int) then (some (a0.extract ((a1.size : Int) : Int).toNat a0.size, true)) else (none)) else (none)) else (some (a0, false)))) = some (r1, r2) := h
 clear h
 replace H := Option.bind_eq_some_iff.mp H
 obtain ⟨t122, A30, H⟩ := H
 replace H : (if t122 = true then (if 0 ≤ (a1.size : Int) then (if (a1.size : Int) ≤ (a0.size : Int) then (some (a0.extract ((a1.size : Int) : Int).toNat a0.size, true)) else (none)) else (none)) else (some (a0, false))) = some (r1, r2) := H
 have A3 := Aside0.mk A30
 clear A30
 by_cases c4 : t122 = true
 ·subst c4
  have H1 : (if 0 ≤ (a1.size : Int) then (if (a1.size : Int) ≤ (a0.size : Int) then (some (a0.extract ((a1.size : Int) : Int).toNat a0.size, true)) else (none)) else (none)) = some (r1, r2) := by rw [if_pos rfl] at H; exact H
  clear H
  have H := H1
  clear H1
  by_cases c5 : 0 ≤ (a1.size : Int)
  ·rw [if_pos c5] at H
   have c5b0 := eq_true c5
   have c5b1 : decide (0 ≤ (a1.size : Int)) = true := decide_eq_true c5
   clear c5
   by_cases c6 : (a1.size : Int) ≤ (a0.size : Int)
   ·rw [if_pos c6] at H
    have c6b0 := eq_true c6
    have c6b1 : decide ((a1.size : Int) ≤ (a0.size : Int)) = true := decide_eq_true c6
    clear c6
    simp only [Option.some.injEq, Prod.mk.injEq] at H
    obtain ⟨rfl, rfl⟩ := H
    go_enter Tryd.func54, Tryd.ntmps54
    go_wp2_with (first | ((with_reducible refine gate_callee (f := 40) rfl ?_); refine goesL_ (some 8) rfl rfl Tryd.func40 (by kernel_rfl) rfl #[.string a0, .string a1] rfl (by (try simp only [List.map_toArray, List.map_cons, List.map_nil]); first | done | rfl | (simp only [List.length_drop, List.length_take]; rfl)) ?_; (with_reducible refine (stringslite_HasPrefix.calls a0 a1 true _ A3.out).mono ?_); rintro e w' ⟨rfl, ⟨nd, rfl⟩⟩; refine ⟨_, rfl, ?_⟩))
    go_ret2
    exact ⟨by first | rfl | (simp; done) | (simp [*]; done), by repeat (first | exact Drawn0.refl _ | apply Drawn0.step)⟩
   ·rw [if_neg c6] at H
    exact absurd H (by simp)
  ·rw [if_neg c5] at H
   exact absurd H (by simp)
 ·replace c4 := Bool.eq_false_iff.mpr c4
  subst c4
  have H1 : (some (a0, false)) = some (r1, r2) := by rw [if_neg (show ¬ (false = true) by decide)] at H; exact H
  clear H
  have H := H1
  clear H1
  simp only [Option.some.injEq, Prod.mk.injEq] at H
  obtain ⟨rfl, rfl⟩ := H
  go_enter Tryd.func54, Tryd.ntmps54
  go_wp2_with (first | ((with_reducible refine gate_callee (f := 40) rfl ?_); refine goesL_ (some 8) rfl rfl Tryd.func40 (by kernel_rfl) rfl #[.string a0, .string a1] rfl (by (try simp only [List.map_toArray, List.map_cons, List.map_nil]); first | done | rfl | (simp only [List.length_drop, List.length_take]; rfl)) ?_; (with_reducible refine (stringslite_HasPrefix.calls a0 a1 false _ A3.out).mono ?_); rintro e w' ⟨rfl, ⟨nd, rfl⟩⟩; refine ⟨_, rfl, ?_⟩))
  go_ret2
  exact ⟨by first | rfl | (simp; done) | (simp [*]; done), by repeat (first | exact Drawn0.refl _ | apply Drawn0.step)⟩
end Go.Proofs.YtljkopbalejcgaaDoor.P
end
section
namespace Go.Proofs.YtljkopbalejcgaaDoor.P
open Go.RowKit Go.Proofs.YtljkopbalejcgaaDoorW.PrintWords Go.Proofs.YtljkopbalejcgaaDoorW.PrintLast Go.Proofs.YtljkopbalejcgaaDoorW.PrintMore
attribute [local go_sem] max2_int min2_int max_two min_two max_three min_three max_four min_four
set_option linter.unusedVariables false
set_option linter.unusedSimpArgs false
def strings_CutPrefix.f (a0 : ByteArray) (a1 : ByteArray) : Option (ByteArray × Bool) := (stringslite_CutPrefix.f a0 a1).bind fun bt123 => (some (bt123.1, bt123.2))
set_option maxHeartbeats 8000000 in
set_option maxRecDepth 100000 in
theorem strings_CutPrefix.calls (a0 : ByteArray) (a1 : ByteArray) (r1 : ByteArray) (r2 : Bool) (w : World) (h : strings_CutPrefix.f a0 a1 = some (r1, r2)) :
  Calls Tryd.prog 43 #[.string a0, .string a1] w fun e w' => e = .returned (.tuple #[.string r1, .bool r2]) ∧ Drawn0 w w' := by
 have H : ((stringslite_CutPrefix.f a0 a1).bind fun bt123 => (some (bt123.1, bt123.2))) = some (r1, r2) := h
 clear h
 replace H := Option.bind_eq_some_iff.mp H
 obtain ⟨⟨t123, t124⟩, A30, H⟩ := H
 replace H : (some (t123, t124)) = some (r1, r2) := H
 have A3 := Aside0.mk A30
 clear A30
 simp only [Option.some.injEq, Prod.mk.injEq] at H
 obtain ⟨rfl, rfl⟩ := H
 go_enter Tryd.func43, Tryd.ntmps43
 go_wp2_with (first | ((with_reducible refine gate_callee (f := 54) rfl ?_); refine goesL_ (some 8) rfl rfl Tryd.func54 (by kernel_rfl) rfl #[.string a0, .string a1] rfl (by (try simp only [List.map_toArray, List.map_cons, List.map_nil]); first | done | rfl | (simp only [List.length_drop, List.length_take]; rfl)) ?_; (with_reducible refine (stringslite_CutPrefix.calls a0 a1 t123 t124 _ A3.out).mono ?_); rintro e w' ⟨rfl, ⟨nd, rfl⟩⟩; refine ⟨_, rfl, ?_⟩))
 go_ret2
 exact ⟨by first | rfl | (simp; done) | (simp [*]; done), by repeat (first | exact Drawn0.refl _ | apply Drawn0.step)⟩
end Go.Proofs.YtljkopbalejcgaaDoor.P
end
section
namespace Go.Proofs.YtljkopbalejcgaaDoor.P
open Go.RowKit Go.Proofs.YtljkopbalejcgaaDoorW.PrintWords Go.Proofs.YtljkopbalejcgaaDoorW.PrintLast Go.Proofs.YtljkopbalejcgaaDoorW.PrintMore
attribute [local go_sem] max2_int min2_int max_two min_two max_three min_three max_four min_four
set_option linter.unusedVariables false
set_option linter.unusedSimpArgs false
def stringslite_HasSuffix.f (a0 : ByteArray) (a1 : ByteArray) : Option (Bool) := if (a0.size : Int) ≥ (a1.size : Int) then (if 0 ≤ (wrap64 ((a0.size : Int) - (a1.size : Int))) then (if (wrap64 ((a0.size : Int) - (a1.size : Int))) ≤ (a0.size : Int) then (some ((a0.extract ((wrap64 ((a0.size : Int) - (a1.size : Int))) : Int).toNat a0.size).toList == a1.toList)) else (none)) else (none)) else (some false)
set_option maxHeartbeats 8000000 in
set_option maxRecDepth 100000 in
theorem stringslite_HasSuffix.calls (a0 : ByteArray) (a1 : ByteArray) (r : Bool) (w : World) (h : stringslite_HasSuffix.f a0 a1 = some r) :
  Calls Tryd.prog 46 #[.string a0, .string a1] w fun e w' => e = .returned (.bool r) ∧ Drawn0 w w' := by
 have H : (if (a0.size : Int) ≥ (a1.size : Int) then (if 0 ≤ (wrap64 ((a0.size : Int) - (a1.size : Int))) then (if (wrap64 ((a0.size : Int) - (a1.size : Int))) ≤ (a0.size : Int) then (some ((a0.extract ((wrap64 ((a0.size : Int) - (a1.size : Int))) : Int).toNat a0.size).toList == a1.toList)) else (none)) else (none)) else (some false)) = some r := h
 clear h
 by_cases c3 : (a0.size : Int) ≥ (a1.size : Int)
 ·rw [if_pos c3] at H
  have c3b0 : decide ((a1.size : Int) ≤ (a0.size : Int)) = true := decide_eq_true c3
  have c3b1 : decide (a1.size ≤ a0.size) = true := decide_eq_true (Int.ofNat_le.mp c3)
  clear c3
  obtain ⟨ji4, hji4⟩ : ∃ j_ : Int, (wrap64 ((a0.size : Int) - (a1.size : Int))) = j_ := ⟨_, rfl⟩
  replace H : (if 0 ≤ (ji4) then (if (ji4) ≤ (a0.size : Int) then (some ((a0.extract ((ji4) : Int).toNat a0.size).toList == a1.toList)) else (none)) else (none)) = some r := by first | (rw [hji4] at H; exact H) | (simp only [hji4] at H ⊢; exact H)
  have hji4w : (IntKind.i64.wrap ((a0.size : Int) - (a1.size : Int))) = ji4 := (i64_w _).trans hji4
  by_cases c5 : 0 ≤ (ji4)
  ·rw [if_pos c5] at H
   have c5b0 := eq_true c5
   have c5b1 : decide (0 ≤ (ji4)) = true := decide_eq_true c5
   clear c5
   by_cases c6 : (ji4) ≤ (a0.size : Int)
   ·rw [if_pos c6] at H
    have c6b0 := eq_true c6
    have c6b1 : decide ((ji4) ≤ (a0.size : Int)) = true := decide_eq_true c6
    clear c6
    obtain rfl := Option.some.inj H
    go_enter Tryd.func46, Tryd.ntmps46
    go_wp2
    go_ret
    exact ⟨by first | rfl | (simp; done) | (simp only [← hji4] <;> (first | rfl | simp)) | (simp [*]; done), by repeat (first | exact Drawn0.refl _ | apply Drawn0.step)⟩
   ·rw [if_neg c6] at H
    exact absurd H (by simp)
  ·rw [if_neg c5] at H
   exact absurd H (by simp)
 ·rw [if_neg c3] at H
  have c3b0 : decide ((a1.size : Int) ≤ (a0.size : Int)) = false := decide_eq_false c3
  have c3b1 : decide (a1.size ≤ a0.size) = false := decide_eq_false (fun h => c3 (Int.ofNat_le.mpr h))
  clear c3
  obtain rfl := Option.some.inj H
  go_enter Tryd.func46, Tryd.ntmps46
  go_wp2
  go_ret
  exact ⟨by first | rfl | (simp; done) | (simp [*]; done), by repeat (first | exact Drawn0.refl _ | apply Drawn0.step)⟩
end Go.Proofs.YtljkopbalejcgaaDoor.P
end
section
namespace Go.Proofs.YtljkopbalejcgaaDoor.P
open Go.RowKit Go.Proofs.YtljkopbalejcgaaDoorW.PrintWords Go.Proofs.YtljkopbalejcgaaDoorW.PrintLast Go.Proofs.YtljkopbalejcgaaDoorW.PrintMore
attribute [local go_sem] max2_int min2_int max_two min_two max_three min_three max_four min_four
set_option linter.unusedVariables false
set_option linter.unusedSimpArgs false
def stringslite_CutSuffix.f (a0 : ByteArray) (a1 : ByteArray) : Option (ByteArray × Bool) := (stringslite_HasSuffix.f a0 a1).bind fun t125 => (if t125 = true then (if 0 ≤ (wrap64 ((a0.size : Int) - (a1.size : Int))) then (if (wrap64 ((a0.size : Int) - (a1.size : Int))) ≤ (a0.size : Int) then (some (a0.extract 0 ((wrap64 ((a0.size : Int) - (a1.size : Int))) : Int).toNat, true)) else (none)) else (none)) else (some (a0, false)))
set_option maxHeartbeats 8000000 in
set_option maxRecDepth 100000 in
theorem stringslite_CutSuffix.calls (a0 : ByteArray) (a1 : ByteArray) (r1 : ByteArray) (r2 : Bool) (w : World) (h : stringslite_CutSuffix.f a0 a1 = some (r1, r2)) :
  Calls Tryd.prog 65 #[.string a0, .string a1] w fun e w' => e = .returned (.tuple #[.string r1, .bool r2]) ∧ Drawn0 w w' := by
 have H : ((stringslite_HasSuffix.f a0 a1).bind fun t125 => (if t125 = true then (if 0 ≤ (wrap64 ((a0.size : Int) - (a1.size : Int))) then (if (wrap64 ((a0.size : Int) - (a1.size : Int))) ≤ (a0.size : Int) then (some (a0.extract 0 ((wrap64 ((a0.size : Int) - (a1.size : Int))) : Int).toNat, true)) else (none)) else (none)) else (some (a0, false)))) = some (r1, r2) := h
 clear h
 replace H := Option.bind_eq_some_iff.mp H
 obtain ⟨t125, A30, H⟩ := H
 replace H : (if t125 = true then (if 0 ≤ (wrap64 ((a0.size : Int) - (a1.size : Int))) then (if (wrap64 ((a0.size : Int) - (a1.size : Int))) ≤ (a0.size : Int) then (some (a0.extract 0 ((wrap64 ((a0.size : Int) - (a1.size : Int))) : Int).toNat, true)) else (none)) else (none)) else (some (a0, false))) = some (r1, r2) := H
 have A3 := Aside0.mk A30
 clear A30
 by_cases c4 : t125 = true
 ·subst c4
  have H1 : (if 0 ≤ (wrap64 ((a0.size : Int) - (a1.size : Int))) then (if (wrap64 ((a0.size : Int) - (a1.size : Int))) ≤ (a0.size : Int) then (some (a0.extract 0 ((wrap64 ((a0.size : Int) - (a1.size : Int))) : Int).toNat, true)) else (none)) else (none)) = some (r1, r2) := by rw [if_pos rfl] at H; exact H
  clear H
  have H := H1
  clear H1
  obtain ⟨ji5, hji5⟩ : ∃ j_ : Int, (wrap64 ((a0.size : Int) - (a1.size : Int))) = j_ := ⟨_, rfl⟩
  replace H : (if 0 ≤ (ji5) then (if (ji5) ≤ (a0.size : Int) then (some (a0.extract 0 ((ji5) : Int).toNat, true)) else (none)) else (none)) = some (r1, r2) := by first | (rw [hji5] at H; exact H) | (simp only [hji5] at H ⊢; exact H)
  (try rw [hji5] at A3)
  have hji5w : (IntKind.i64.wrap ((a0.size : Int) - (a1.size : Int))) = ji5 := (i64_w _).trans hji5
  by_cases c6 : 0 ≤ (ji5)
  ·rw [if_pos c6] at H
   have c6b0 := eq_true c6
   have c6b1 : decide (0 ≤ (ji5)) = true := decide_eq_true c6
   clear c6
   by_cases c7 : (ji5) ≤ (a0.size : Int)
   ·rw [if_pos c7] at H
    have c7b0 := eq_true c7
    have c7b1 : decide ((ji5) ≤ (a0.size : Int)) = true := decide_eq_true c7
    clear c7
    simp only [Option.some.injEq, Prod.mk.injEq] at H
    obtain ⟨rfl, rfl⟩ := H
    go_enter Tryd.func65, Tryd.ntmps65
    go_wp2_with (first | ((with_reducible refine gate_callee (f := 46) rfl ?_); refine goesL_ (some 8) rfl rfl Tryd.func46 (by kernel_rfl) rfl #[.string a0, .string a1] rfl (by (try simp only [List.map_toArray, List.map_cons, List.map_nil]); first | done | rfl | (simp only [List.length_drop, List.length_take]; rfl)) ?_; (with_reducible refine (stringslite_HasSuffix.calls a0 a1 true _ A3.out).mono ?_); rintro e w' ⟨rfl, ⟨nd, rfl⟩⟩; refine ⟨_, rfl, ?_⟩))
    go_ret2
    exact ⟨by first | rfl | (simp; done) | (simp only [← hji5] <;> (first | rfl | simp)) | (simp [*]; done), by repeat (first | exact Drawn0.refl _ | apply Drawn0.step)⟩
   ·rw [if_neg c7] at H
    exact absurd H (by simp)
  ·rw [if_neg c6] at H
   exact absurd H (by simp)
 ·replace c4 := Bool.eq_false_iff.mpr c4
  subst c4
  have H1 : (some (a0, false)) = some (r1, r2) := by rw [if_neg (show ¬ (false = true) by decide)] at H; exact H
  clear H
  have H := H1
  clear H1
  simp only [Option.some.injEq, Prod.mk.injEq] at H
  obtain ⟨rfl, rfl⟩ := H
  go_enter Tryd.func65, Tryd.ntmps65
  go_wp2_with (first | ((with_reducible refine gate_callee (f := 46) rfl ?_); refine goesL_ (some 8) rfl rfl Tryd.func46 (by kernel_rfl) rfl #[.string a0, .string a1] rfl (by (try simp only [List.map_toArray, List.map_cons, List.map_nil]); first | done | rfl | (simp only [List.length_drop, List.length_take]; rfl)) ?_; (with_reducible refine (stringslite_HasSuffix.calls a0 a1 false _ A3.out).mono ?_); rintro e w' ⟨rfl, ⟨nd, rfl⟩⟩; refine ⟨_, rfl, ?_⟩))
  go_ret2
  exact ⟨by first | rfl | (simp; done) | (simp [*]; done), by repeat (first | exact Drawn0.refl _ | apply Drawn0.step)⟩
end Go.Proofs.YtljkopbalejcgaaDoor.P
end
section
namespace Go.Proofs.YtljkopbalejcgaaDoor.P
open Go.RowKit Go.Proofs.YtljkopbalejcgaaDoorW.PrintWords Go.Proofs.YtljkopbalejcgaaDoorW.PrintLast Go.Proofs.YtljkopbalejcgaaDoorW.PrintMore
attribute [local go_sem] max2_int min2_int max_two min_two max_three min_three max_four min_four
set_option linter.unusedVariables false
set_option linter.unusedSimpArgs false
def strings_CutSuffix.f (a0 : ByteArray) (a1 : ByteArray) : Option (ByteArray × Bool) := (stringslite_CutSuffix.f a0 a1).bind fun bt126 => (some (bt126.1, bt126.2))
set_option maxHeartbeats 8000000 in
set_option maxRecDepth 100000 in
theorem strings_CutSuffix.calls (a0 : ByteArray) (a1 : ByteArray) (r1 : ByteArray) (r2 : Bool) (w : World) (h : strings_CutSuffix.f a0 a1 = some (r1, r2)) :
  Calls Tryd.prog 53 #[.string a0, .string a1] w fun e w' => e = .returned (.tuple #[.string r1, .bool r2]) ∧ Drawn0 w w' := by
 have H : ((stringslite_CutSuffix.f a0 a1).bind fun bt126 => (some (bt126.1, bt126.2))) = some (r1, r2) := h
 clear h
 replace H := Option.bind_eq_some_iff.mp H
 obtain ⟨⟨t126, t127⟩, A30, H⟩ := H
 replace H : (some (t126, t127)) = some (r1, r2) := H
 have A3 := Aside0.mk A30
 clear A30
 simp only [Option.some.injEq, Prod.mk.injEq] at H
 obtain ⟨rfl, rfl⟩ := H
 go_enter Tryd.func53, Tryd.ntmps53
 go_wp2_with (first | ((with_reducible refine gate_callee (f := 65) rfl ?_); refine goesL_ (some 8) rfl rfl Tryd.func65 (by kernel_rfl) rfl #[.string a0, .string a1] rfl (by (try simp only [List.map_toArray, List.map_cons, List.map_nil]); first | done | rfl | (simp only [List.length_drop, List.length_take]; rfl)) ?_; (with_reducible refine (stringslite_CutSuffix.calls a0 a1 t126 t127 _ A3.out).mono ?_); rintro e w' ⟨rfl, ⟨nd, rfl⟩⟩; refine ⟨_, rfl, ?_⟩))
 go_ret2
 exact ⟨by first | rfl | (simp; done) | (simp [*]; done), by repeat (first | exact Drawn0.refl _ | apply Drawn0.step)⟩
end Go.Proofs.YtljkopbalejcgaaDoor.P
end
section
namespace Go.Proofs.YtljkopbalejcgaaDoor.P
open Go.RowKit Go.Proofs.YtljkopbalejcgaaDoorW.PrintWords Go.Proofs.YtljkopbalejcgaaDoorW.PrintLast Go.Proofs.YtljkopbalejcgaaDoorW.PrintMore
attribute [local go_sem] max2_int min2_int max_two min_two max_three min_three max_four min_four
set_option linter.unusedVariables false
set_option linter.unusedSimpArgs false
def addr_Unpath.f (a0 : ByteArray) : Option (ByteArray × Int) := (strings_CutPrefix.f a0 (⟨#[60]⟩ : ByteArray)).bind fun bt128 => ((strings_CutSuffix.f bt128.1 (⟨#[62]⟩ : ByteArray)).bind fun bt130 => (if bt128.2 = true then (if bt130.2 = true then ((addr_Path.f bt130.1).bind fun t132 => (if t132.toList = ([] : List UInt8) then (some ((⟨#[]⟩ : ByteArray), 4)) else (some (bt130.1, 0)))) else (some ((⟨#[]⟩ : ByteArray), 4))) else (some ((⟨#[]⟩ : ByteArray), 4))))
set_option maxHeartbeats 8000000 in
set_option maxRecDepth 100000 in
theorem addr_Unpath.calls (a0 : ByteArray) (r1 : ByteArray) (r2 : Int) (w : World) (h : addr_Unpath.f a0 = some (r1, r2)) :
  Calls Tryd.prog 41 #[.string a0] w fun e w' => e = .returned (.tuple #[.string r1, .int .i64 r2]) ∧ Below w.heap.size w w' := by
 have HB := Aside0.mk (Below.refl w.heap.size w)
 have H : ((strings_CutPrefix.f a0 (⟨#[60]⟩ : ByteArray)).bind fun bt128 => ((strings_CutSuffix.f bt128.1 (⟨#[62]⟩ : ByteArray)).bind fun bt130 => (if bt128.2 = true then (if bt130.2 = true then ((addr_Path.f bt130.1).bind fun t132 => (if t132.toList = ([] : List UInt8) then (some ((⟨#[]⟩ : ByteArray), 4)) else (some (bt130.1, 0)))) else (some ((⟨#[]⟩ : ByteArray), 4))) else (some ((⟨#[]⟩ : ByteArray), 4))))) = some (r1, r2) := h
 clear h
 replace H := Option.bind_eq_some_iff.mp H
 obtain ⟨⟨t128, t129⟩, A20, H⟩ := H
 replace H : ((strings_CutSuffix.f t128 (⟨#[62]⟩ : ByteArray)).bind fun bt130 => (if t129 = true then (if bt130.2 = true then ((addr_Path.f bt130.1).bind fun t132 => (if t132.toList = ([] : List UInt8) then (some ((⟨#[]⟩ : ByteArray), 4)) else (some (bt130.1, 0)))) else (some ((⟨#[]⟩ : ByteArray), 4))) else (some ((⟨#[]⟩ : ByteArray), 4)))) = some (r1, r2) := H
 have A2 := Aside0.mk A20
 clear A20
 replace H := Option.bind_eq_some_iff.mp H
 obtain ⟨⟨t130, t131⟩, A30, H⟩ := H
 replace H : (if t129 = true then (if t131 = true then ((addr_Path.f t130).bind fun t132 => (if t132.toList = ([] : List UInt8) then (some ((⟨#[]⟩ : ByteArray), 4)) else (some (t130, 0)))) else (some ((⟨#[]⟩ : ByteArray), 4))) else (some ((⟨#[]⟩ : ByteArray), 4))) = some (r1, r2) := H
 have A3 := Aside0.mk A30
 clear A30
 by_cases c4 : t129 = true
 ·subst c4
  have H1 : (if t131 = true then ((addr_Path.f t130).bind fun t132 => (if t132.toList = ([] : List UInt8) then (some ((⟨#[]⟩ : ByteArray), 4)) else (some (t130, 0)))) else (some ((⟨#[]⟩ : ByteArray), 4))) = some (r1, r2) := by rw [if_pos rfl] at H; exact H
  clear H
  have H := H1
  clear H1
  by_cases c5 : t131 = true
  ·subst c5
   have H1 : ((addr_Path.f t130).bind fun t132 => (if t132.toList = ([] : List UInt8) then (some ((⟨#[]⟩ : ByteArray), 4)) else (some (t130, 0)))) = some (r1, r2) := by rw [if_pos rfl] at H; exact H
   clear H
   have H := H1
   clear H1
   replace H := Option.bind_eq_some_iff.mp H
   obtain ⟨t132, A60, H⟩ := H
   replace H : (if t132.toList = ([] : List UInt8) then (some ((⟨#[]⟩ : ByteArray), 4)) else (some (t130, 0))) = some (r1, r2) := H
   have A6 := Aside0.mk A60
   clear A60
   by_cases c7 : t132.toList = ([] : List UInt8)
   ·rw [if_pos c7] at H
    have c7b0 : (t132.toList == ([] : List UInt8)) = true := beq_iff_eq.mpr c7
    have c7b1 : (t132.toList != ([] : List UInt8)) = false := bne_eq_false_iff_eq.mpr c7
    clear c7
    simp only [Option.some.injEq, Prod.mk.injEq] at H
    obtain ⟨rfl, rfl⟩ := H
    go_enter Tryd.func41, Tryd.ntmps41
    go_wp2_with (first | ((with_reducible refine gate_callee (f := 43) rfl ?_); refine goesL_ (some 9) rfl rfl Tryd.func43 (by kernel_rfl) rfl #[.string a0, .string (⟨#[60]⟩ : ByteArray)] rfl (by (try simp only [List.map_toArray, List.map_cons, List.map_nil]); first | done | rfl | (simp only [List.length_drop, List.length_take]; rfl)) ?_; (with_reducible refine (strings_CutPrefix.calls a0 (⟨#[60]⟩ : ByteArray) t128 true _ A2.out).mono ?_); rintro e w' ⟨rfl, ⟨nd, rfl⟩⟩; refine ⟨_, rfl, ?_⟩) | ((with_reducible refine gate_callee (f := 53) rfl ?_); refine goesL_ (some 14) rfl rfl Tryd.func53 (by kernel_rfl) rfl #[.string t128, .string (⟨#[62]⟩ : ByteArray)] rfl (by (try simp only [List.map_toArray, List.map_cons, List.map_nil]); first | done | rfl | (simp only [List.length_drop, List.length_take]; rfl)) ?_; (with_reducible refine (strings_CutSuffix.calls t128 (⟨#[62]⟩ : ByteArray) t130 true _ A3.out).mono ?_); rintro e w' ⟨rfl, ⟨nd, rfl⟩⟩; refine ⟨_, rfl, ?_⟩) | (go_at_call 27; (with_reducible refine (addr_Path.calls t130 t132 _ A6.out).mono ?_); rintro e w8 ⟨rfl, hb⟩; have n0_ := Aside0.mk (below_step (by repeat (first | (with_reducible first | exact HB.out | apply below_alloc | apply pw_below_drewN | apply below_drew1) | exact HB.out)) hb); clear HB; have HB := n0_; clear n0_; (try clear hb); (try clear hb2); (try clear hk); (try clear hi)))
    go_ret2
    exact ⟨by first | rfl | (simp [errW_none, errW_some] <;> rfl) | (simp [*, errW_none, errW_some] <;> rfl), by repeat (first | (with_reducible first | exact HB.out | apply below_alloc | apply pw_below_drewN | apply below_drew1) | exact HB.out)⟩
   ·rw [if_neg c7] at H
    have c7b0 : (t132.toList == ([] : List UInt8)) = false := beq_eq_false_iff_ne.mpr c7
    have c7b1 : (t132.toList != ([] : List UInt8)) = true := bne_iff_ne.mpr c7
    simp only [Option.some.injEq, Prod.mk.injEq] at H
    obtain ⟨rfl, rfl⟩ := H
    go_enter Tryd.func41, Tryd.ntmps41
    go_wp2_with (first | ((with_reducible refine gate_callee (f := 43) rfl ?_); refine goesL_ (some 9) rfl rfl Tryd.func43 (by kernel_rfl) rfl #[.string a0, .string (⟨#[60]⟩ : ByteArray)] rfl (by (try simp only [List.map_toArray, List.map_cons, List.map_nil]); first | done | rfl | (simp only [List.length_drop, List.length_take]; rfl)) ?_; (with_reducible refine (strings_CutPrefix.calls a0 (⟨#[60]⟩ : ByteArray) t128 true _ A2.out).mono ?_); rintro e w' ⟨rfl, ⟨nd, rfl⟩⟩; refine ⟨_, rfl, ?_⟩) | ((with_reducible refine gate_callee (f := 53) rfl ?_); refine goesL_ (some 14) rfl rfl Tryd.func53 (by kernel_rfl) rfl #[.string t128, .string (⟨#[62]⟩ : ByteArray)] rfl (by (try simp only [List.map_toArray, List.map_cons, List.map_nil]); first | done | rfl | (simp only [List.length_drop, List.length_take]; rfl)) ?_; (with_reducible refine (strings_CutSuffix.calls t128 (⟨#[62]⟩ : ByteArray) t130 true _ A3.out).mono ?_); rintro e w' ⟨rfl, ⟨nd, rfl⟩⟩; refine ⟨_, rfl, ?_⟩) | (go_at_call 27; (with_reducible refine (addr_Path.calls t130 t132 _ A6.out).mono ?_); rintro e w9 ⟨rfl, hb⟩; have n0_ := Aside0.mk (below_step (by repeat (first | (with_reducible first | exact HB.out | apply below_alloc | apply pw_below_drewN | apply below_drew1) | exact HB.out)) hb); clear HB; have HB := n0_; clear n0_; (try clear hb); (try clear hb2); (try clear hk); (try clear hi)))
    go_ret2
    exact ⟨by first | rfl | (simp [errW_none, errW_some] <;> rfl) | (simp [*, errW_none, errW_some] <;> rfl), by repeat (first | (with_reducible first | exact HB.out | apply below_alloc | apply pw_below_drewN | apply below_drew1) | exact HB.out)⟩
  ·replace c5 := Bool.eq_false_iff.mpr c5
   subst c5
   have H1 : (some ((⟨#[]⟩ : ByteArray), 4)) = some (r1, r2) := by rw [if_neg (show ¬ (false = true) by decide)] at H; exact H
   clear H
   have H := H1
   clear H1
   simp only [Option.some.injEq, Prod.mk.injEq] at H
   obtain ⟨rfl, rfl⟩ := H
   go_enter Tryd.func41, Tryd.ntmps41
   go_wp2_with (first | ((with_reducible refine gate_callee (f := 43) rfl ?_); refine goesL_ (some 9) rfl rfl Tryd.func43 (by kernel_rfl) rfl #[.string a0, .string (⟨#[60]⟩ : ByteArray)] rfl (by (try simp only [List.map_toArray, List.map_cons, List.map_nil]); first | done | rfl | (simp only [List.length_drop, List.length_take]; rfl)) ?_; (with_reducible refine (strings_CutPrefix.calls a0 (⟨#[60]⟩ : ByteArray) t128 true _ A2.out).mono ?_); rintro e w' ⟨rfl, ⟨nd, rfl⟩⟩; refine ⟨_, rfl, ?_⟩) | ((with_reducible refine gate_callee (f := 53) rfl ?_); refine goesL_ (some 14) rfl rfl Tryd.func53 (by kernel_rfl) rfl #[.string t128, .string (⟨#[62]⟩ : ByteArray)] rfl (by (try simp only [List.map_toArray, List.map_cons, List.map_nil]); first | done | rfl | (simp only [List.length_drop, List.length_take]; rfl)) ?_; (with_reducible refine (strings_CutSuffix.calls t128 (⟨#[62]⟩ : ByteArray) t130 false _ A3.out).mono ?_); rintro e w' ⟨rfl, ⟨nd, rfl⟩⟩; refine ⟨_, rfl, ?_⟩))
   go_ret2
   exact ⟨by first | rfl | (simp [errW_none, errW_some] <;> rfl) | (simp [*, errW_none, errW_some] <;> rfl), by repeat (first | (with_reducible first | exact HB.out | apply below_alloc | apply pw_below_drewN | apply below_drew1) | exact HB.out)⟩
 ·replace c4 := Bool.eq_false_iff.mpr c4
  subst c4
  have H1 : (some ((⟨#[]⟩ : ByteArray), 4)) = some (r1, r2) := by rw [if_neg (show ¬ (false = true) by decide)] at H; exact H
  clear H
  have H := H1
  clear H1
  simp only [Option.some.injEq, Prod.mk.injEq] at H
  obtain ⟨rfl, rfl⟩ := H
  go_enter Tryd.func41, Tryd.ntmps41
  go_wp2_with (first | ((with_reducible refine gate_callee (f := 43) rfl ?_); refine goesL_ (some 9) rfl rfl Tryd.func43 (by kernel_rfl) rfl #[.string a0, .string (⟨#[60]⟩ : ByteArray)] rfl (by (try simp only [List.map_toArray, List.map_cons, List.map_nil]); first | done | rfl | (simp only [List.length_drop, List.length_take]; rfl)) ?_; (with_reducible refine (strings_CutPrefix.calls a0 (⟨#[60]⟩ : ByteArray) t128 false _ A2.out).mono ?_); rintro e w' ⟨rfl, ⟨nd, rfl⟩⟩; refine ⟨_, rfl, ?_⟩) | ((with_reducible refine gate_callee (f := 53) rfl ?_); refine goesL_ (some 14) rfl rfl Tryd.func53 (by kernel_rfl) rfl #[.string t128, .string (⟨#[62]⟩ : ByteArray)] rfl (by (try simp only [List.map_toArray, List.map_cons, List.map_nil]); first | done | rfl | (simp only [List.length_drop, List.length_take]; rfl)) ?_; (with_reducible refine (strings_CutSuffix.calls t128 (⟨#[62]⟩ : ByteArray) t130 t131 _ A3.out).mono ?_); rintro e w' ⟨rfl, ⟨nd, rfl⟩⟩; refine ⟨_, rfl, ?_⟩))
  go_ret2
  exact ⟨by first | rfl | (simp [errW_none, errW_some] <;> rfl) | (simp [*, errW_none, errW_some] <;> rfl), by repeat (first | (with_reducible first | exact HB.out | apply below_alloc | apply pw_below_drewN | apply below_drew1) | exact HB.out)⟩
end Go.Proofs.YtljkopbalejcgaaDoor.P
end
section
namespace Go.Proofs.YtljkopbalejcgaaDoor.P
open Go.RowKit Go.Proofs.YtljkopbalejcgaaDoorW.PrintWords Go.Proofs.YtljkopbalejcgaaDoorW.PrintLast Go.Proofs.YtljkopbalejcgaaDoorW.PrintMore
attribute [local go_sem] max2_int min2_int max_two min_two max_three min_three max_four min_four
set_option linter.unusedVariables false
set_option linter.unusedSimpArgs false
def cmd_path.l0 : Nat → ByteArray → Int → Int → Option (ByteArray × ByteArray × Bool)
 | 0, _, _, _ => none
 | k + 1, x0, x9, x10 => if x10 < x9 then (if 0 ≤ x10 then (if x10 < (x0.size : Int) then (if (bt x0 x10) = 62 then (if 0 ≤ (wrap64 (x10 + 1)) then (if (wrap64 (x10 + 1)) ≤ (x0.size : Int) then ((addr_Unpath.f (x0.extract 0 ((wrap64 (x10 + 1)) : Int).toNat)).bind fun bt133 => (if bt133.2 = 0 then (some (bt133.1, x0.extract ((wrap64 (x10 + 1)) : Int).toNat x0.size, true)) else (cmd_path.l0 k x0 x9 (wrap64 (x10 + 1))))) else (none)) else (none)) else (cmd_path.l0 k x0 x9 (wrap64 (x10 + 1)))) else (none)) else (none)) else (some ((⟨#[]⟩ : ByteArray), (⟨#[]⟩ : ByteArray), false))
def cmd_path.f (k : Nat) (a0 : ByteArray) : Option (ByteArray × ByteArray × Bool) := cmd_path.l0 k a0 (a0.size : Int) 0
theorem cmd_path.mono_l : ∀ k, (∀ y0 y1 y2, LeO (cmd_path.l0 k y0 y1 y2) (cmd_path.l0 (k + 1) y0 y1 y2))
 | 0 => fun _ _ _ r h => by simp [cmd_path.l0] at h
 | k + 1 => by
  have ih0 := cmd_path.mono_l k
  ·intro y0 y1 y2
   unfold cmd_path.l0
   repeat' first
   | (with_reducible exact ih0 _ _ _)
   | (with_reducible exact LeO.refl _)
   | (with_reducible exact LeO.none _)
   | (with_reducible refine LeO.ite ?_ ?_)
   | (with_reducible refine LeO.bind ?_ (fun _ => ?_))
   | exact ih0 _ _ _
   | exact LeO.none _
   | refine LeO.ite ?_ ?_
   | refine LeO.bind ?_ (fun _ => ?_)
theorem cmd_path.mono : ∀ a0 k, LeO (cmd_path.f k a0) (cmd_path.f (k + 1) a0) := by
 intro a0 k
 have ih0 := cmd_path.mono_l k
 unfold cmd_path.f
 repeat' first
   | (with_reducible exact ih0 _ _ _)
   | (with_reducible exact LeO.refl _)
   | (with_reducible exact LeO.none _)
   | (with_reducible refine LeO.ite ?_ ?_)
   | (with_reducible refine LeO.bind ?_ (fun _ => ?_))
   | exact ih0 _ _ _
   | exact LeO.none _
   | refine LeO.ite ?_ ?_
   | refine LeO.bind ?_ (fun _ => ?_)
set_option maxHeartbeats 8000000 in
set_option maxRecDepth 100000 in
theorem cmd_path.calls (k : Nat) (a0 : ByteArray) (r1 : ByteArray) (r2 : ByteArray) (r3 : Bool) (w : World) (h : cmd_path.f k a0 = some (r1, r2, r3)) :
  Calls Tryd.prog 30 #[.string a0] w fun e w' => e = .returned (.tuple #[.string r1, .string r2, .bool r3]) ∧ Below w.heap.size w w' := by
 have HB := Aside0.mk (Below.refl w.heap.size w)
 have H : (cmd_path.l0 k a0 (a0.size : Int) 0) = some (r1, r2, r3) := h
 clear h
 have H' := Aside0.mk H
 clear H
 go_enter Tryd.func30, Tryd.ntmps30
 go_wp2
 repeat (go_quiet (fail); try go_wp2)
 go_loopg [10] k (fun kq v10 w' => ∃ (x10_1 : Int), v10 = .int .i64 x10_1 ∧ Aside0 (cmd_path.l0 kq a0 (a0.size : Int) x10_1 = some (r1, r2, r3)) ∧ Aside0 (kq ≤ k) ∧ Aside0 (Below w.heap.size w w'))
 case atStart => exact ⟨(0), (by first | rfl | (simp; done) | (simp [*]; done)), H', ⟨Nat.le_refl _⟩, ⟨by repeat (first | (with_reducible first | exact HB.out | apply below_alloc | apply pw_below_drewN | apply below_drew1) | exact HB.out)⟩⟩
 case round =>
  clear H'
  obtain ⟨x10_1, rfl, HA, HK1, HB⟩ := hrel
  cases gk with
  | zero => exact absurd HA.out (by simp [cmd_path.l0])
  | succ k1 =>
   have H := HA.out
   clear HA
   simp only [cmd_path.l0] at H
   by_cases c2 : x10_1 < (a0.size : Int)
   ·rw [if_pos c2] at H
    have c2b0 : decide (x10_1 < (a0.size : Int)) = true := decide_eq_true c2
    clear c2
    by_cases c3 : 0 ≤ x10_1
    ·rw [if_pos c3] at H
     have c3b0 : decide (0 ≤ x10_1) = true := decide_eq_true c3
     clear c3
     by_cases c4 : x10_1 < (a0.size : Int)
     ·rw [if_pos c4] at H
      have c4b0 : decide (x10_1 < (a0.size : Int)) = true := decide_eq_true c4
      clear c4
      by_cases c6 : (bt a0 x10_1) = 62
      ·rw [if_pos c6] at H
       have c6b0 : ((bt a0 x10_1) == 62) = true := beq_iff_eq.mpr c6
       have c6b1 : ((bt a0 x10_1) != 62) = false := bne_eq_false_iff_eq.mpr c6
       clear c6
       obtain ⟨ji7, hji7⟩ : ∃ j_ : Int, (wrap64 (x10_1 + 1)) = j_ := ⟨_, rfl⟩
       replace H : (if 0 ≤ (ji7) then (if (ji7) ≤ (a0.size : Int) then ((addr_Unpath.f (a0.extract 0 ((ji7) : Int).toNat)).bind fun bt133 => (if bt133.2 = 0 then (some (bt133.1, a0.extract ((ji7) : Int).toNat a0.size, true)) else (cmd_path.l0 k1 a0 (a0.size : Int) ji7))) else (none)) else (none)) = some (r1, r2, r3) := by first | (rw [hji7] at H; exact H) | (simp only [hji7] at H ⊢; exact H)
       have hji7w : (IntKind.i64.wrap (x10_1 + 1)) = ji7 := (i64_w _).trans hji7
       by_cases c8 : 0 ≤ (ji7)
       ·rw [if_pos c8] at H
        have c8b0 := eq_true c8
        have c8b1 : decide (0 ≤ (ji7)) = true := decide_eq_true c8
        clear c8
        by_cases c9 : (ji7) ≤ (a0.size : Int)
        ·rw [if_pos c9] at H
         have c9b0 := eq_true c9
         have c9b1 : decide ((ji7) ≤ (a0.size : Int)) = true := decide_eq_true c9
         clear c9
         replace H := Option.bind_eq_some_iff.mp H
         obtain ⟨⟨t133, t134⟩, A100, H⟩ := H
         replace H : (if t134 = 0 then (some (t133, a0.extract ((ji7) : Int).toNat a0.size, true)) else (cmd_path.l0 k1 a0 (a0.size : Int) ji7)) = some (r1, r2, r3) := H
         have A10 := Aside0.mk A100
         clear A100
         by_cases c11 : t134 = 0
         ·rw [if_pos c11] at H
          have c11b0 : (t134 == 0) = true := beq_iff_eq.mpr c11
          have c11b1 : (t134 != 0) = false := bne_eq_false_iff_eq.mpr c11
          clear c11
          have c12b0 := eq_true (of_decide_eq_true (by first | (with_reducible assumption) | assumption) : 0 ≤ (ji7))
          have c13b0 := eq_true (of_decide_eq_true (by first | (with_reducible assumption) | assumption) : (ji7) ≤ (a0.size : Int))
          simp only [Option.some.injEq, Prod.mk.injEq] at H
          obtain ⟨rfl, rfl, rfl⟩ := H
          have p5 : 0 ≤ (x10_1 : Int) := of_decide_eq_true (by first | (with_reducible assumption) | assumption)
          have q5 : x10_1 < (a0.size : Int) := of_decide_eq_true (by first | (with_reducible assumption) | assumption)
          have hx5 := bt_at a0 x10_1
          replace p5 := eq_true p5
          replace q5 := eq_true q5
          go_wp2_with (first | (go_at_call 41; (with_reducible refine (addr_Unpath.calls (a0.extract 0 ((ji7) : Int).toNat) t133 t134 _ A10.out).mono ?_); rintro e w14 ⟨rfl, hb⟩; have n0_ := Aside0.mk (below_step (by repeat (first | (with_reducible first | exact HB.out | apply below_alloc | apply pw_below_drewN | apply below_drew1) | exact HB.out)) hb); clear HB; have HB := n0_; clear n0_; (try clear hb); (try clear hb2); (try clear hk); (try clear hi)))
          repeat (go_quiet (first | (go_at_call 41; (with_reducible refine (addr_Unpath.calls (a0.extract 0 ((ji7) : Int).toNat) t133 t134 _ A10.out).mono ?_); rintro e w14 ⟨rfl, hb⟩; have n0_ := Aside0.mk (below_step (by repeat (first | (with_reducible first | exact HB.out | apply below_alloc | apply pw_below_drewN | apply below_drew1) | exact HB.out)) hb); clear HB; have HB := n0_; clear n0_; (try clear hb); (try clear hb2); (try clear hk); (try clear hi))); try go_wp2_with (first | (go_at_call 41; (with_reducible refine (addr_Unpath.calls (a0.extract 0 ((ji7) : Int).toNat) t133 t134 _ A10.out).mono ?_); rintro e w14 ⟨rfl, hb⟩; have n0_ := Aside0.mk (below_step (by repeat (first | (with_reducible first | exact HB.out | apply below_alloc | apply pw_below_drewN | apply below_drew1) | exact HB.out)) hb); clear HB; have HB := n0_; clear n0_; (try clear hb); (try clear hb2); (try clear hk); (try clear hi))))
          go_ret3
          exact ⟨by first | rfl | (simp [errW_none, errW_some] <;> rfl) | (simp only [← hji7]; first | rfl | (simp [errW_none, errW_some] <;> rfl)) | (simp [*, errW_none, errW_some] <;> rfl), by repeat (first | (with_reducible first | exact HB.out | apply below_alloc | apply pw_below_drewN | apply below_drew1) | exact HB.out)⟩
         ·rw [if_neg c11] at H
          have c11b0 : (t134 == 0) = false := beq_eq_false_iff_ne.mpr c11
          have c11b1 : (t134 != 0) = true := bne_iff_ne.mpr c11
          have H' := Aside0.mk H
          clear H
          have p5 : 0 ≤ (x10_1 : Int) := of_decide_eq_true (by first | (with_reducible assumption) | assumption)
          have q5 : x10_1 < (a0.size : Int) := of_decide_eq_true (by first | (with_reducible assumption) | assumption)
          have hx5 := bt_at a0 x10_1
          replace p5 := eq_true p5
          replace q5 := eq_true q5
          go_wp2_with (first | (go_at_call 41; (with_reducible refine (addr_Unpath.calls (a0.extract 0 ((ji7) : Int).toNat) t133 t134 _ A10.out).mono ?_); rintro e w15 ⟨rfl, hb⟩; have n0_ := Aside0.mk (below_step (by repeat (first | (with_reducible first | exact HB.out | apply below_alloc | apply pw_below_drewN | apply below_drew1) | exact HB.out)) hb); clear HB; have HB := n0_; clear n0_; (try clear hb); (try clear hb2); (try clear hk); (try clear hi)))
          repeat (go_quiet (first | (go_at_call 41; (with_reducible refine (addr_Unpath.calls (a0.extract 0 ((ji7) : Int).toNat) t133 t134 _ A10.out).mono ?_); rintro e w15 ⟨rfl, hb⟩; have n0_ := Aside0.mk (below_step (by repeat (first | (with_reducible first | exact HB.out | apply below_alloc | apply pw_below_drewN | apply below_drew1) | exact HB.out)) hb); clear HB; have HB := n0_; clear n0_; (try clear hb); (try clear hb2); (try clear hk); (try clear hi))); try go_wp2_with (first | (go_at_call 41; (with_reducible refine (addr_Unpath.calls (a0.extract 0 ((ji7) : Int).toNat) t133 t134 _ A10.out).mono ?_); rintro e w15 ⟨rfl, hb⟩; have n0_ := Aside0.mk (below_step (by repeat (first | (with_reducible first | exact HB.out | apply below_alloc | apply pw_below_drewN | apply below_drew1) | exact HB.out)) hb); clear HB; have HB := n0_; clear n0_; (try clear hb); (try clear hb2); (try clear hk); (try clear hi))))
          go_roundg k1
          case measure => have := HK1.out; omega
          case rel => exact ⟨(ji7), (by first | rfl | (simp; done) | (simp only [← hji7] <;> (first | rfl | simp)) | (simp [*]; done)), H', ⟨by have := HK1.out; omega⟩, ⟨by repeat (first | (with_reducible first | exact HB.out | apply below_alloc | apply pw_below_drewN | apply below_drew1) | exact HB.out)⟩⟩
        ·rw [if_neg c9] at H
         exact absurd H (by simp)
       ·rw [if_neg c8] at H
        exact absurd H (by simp)
      ·rw [if_neg c6] at H
       have c6b0 : ((bt a0 x10_1) == 62) = false := beq_eq_false_iff_ne.mpr c6
       have c6b1 : ((bt a0 x10_1) != 62) = true := bne_iff_ne.mpr c6
       have H' := Aside0.mk H
       clear H
       have p5 : 0 ≤ (x10_1 : Int) := of_decide_eq_true (by first | (with_reducible assumption) | assumption)
       have q5 : x10_1 < (a0.size : Int) := of_decide_eq_true (by first | (with_reducible assumption) | assumption)
       have hx5 := bt_at a0 x10_1
       replace p5 := eq_true p5
       replace q5 := eq_true q5
       go_wp2
       repeat (go_quiet (fail); try go_wp2)
       go_roundg k1
       case measure => have := HK1.out; omega
       case rel => exact ⟨(wrap64 (x10_1 + 1)), (by first | rfl | (simp; done) | (simp [*]; done)), H', ⟨by have := HK1.out; omega⟩, ⟨by repeat (first | (with_reducible first | exact HB.out | apply below_alloc | apply pw_below_drewN | apply below_drew1) | exact HB.out)⟩⟩
     ·rw [if_neg c4] at H
      exact absurd H (by simp)
    ·rw [if_neg c3] at H
     exact absurd H (by simp)
   ·rw [if_neg c2] at H
    have c2b0 : decide (x10_1 < (a0.size : Int)) = false := decide_eq_false c2
    clear c2
    simp only [Option.some.injEq, Prod.mk.injEq] at H
    obtain ⟨rfl, rfl, rfl⟩ := H
    go_wp2
    repeat (go_quiet (fail); try go_wp2)
    go_ret3
    exact ⟨by first | rfl | (simp [errW_none, errW_some] <;> rfl) | (simp [*, errW_none, errW_some] <;> rfl), by repeat (first | (with_reducible first | exact HB.out | apply below_alloc | apply pw_below_drewN | apply below_drew1) | exact HB.out)⟩
end Go.Proofs.YtljkopbalejcgaaDoor.P
end
section
set_option linter.unusedVariables false
set_option linter.unusedSimpArgs false
namespace Go.Proofs.YtljkopbalejcgaaDoor.P
open Go Go.RowKit Go.Lib Go.Proofs.YtljkopbalejcgaaDoorW.PrintWords
def mayP (l : List UInt8) : Bool := decide (l = []) || (addrParse l).isSome
theorem hasPre1 (s : ByteArray) (c : UInt8) : stringslite_HasPrefix.f s ⟨#[c]⟩ = some (s.data.toList.head? == some c) := by
 have e1 : (⟨#[c]⟩ : ByteArray).size = 1 := rfl
 unfold stringslite_HasPrefix.f
 rw [e1]
 by_cases h : s.size = 0
 ·have hn : s.data.toList = [] := by rw [← List.length_eq_zero_iff, len_eq]; exact h
  rw [if_neg (by omega), hn]; rfl
 ·rw [if_pos (by omega), if_pos (by omega), if_pos (by omega), Lib.toList_data, Lib.toList_data, Lib.extract_data]
  congr 1
  have : s.data.toList ≠ [] := by intro h'; apply h; rw [← len_eq, h']; rfl
  obtain ⟨b, r, hb⟩ := List.exists_cons_of_ne_nil this
  rw [hb]
  simp
theorem cutPre1 (s : ByteArray) (c : UInt8) : strings_CutPrefix.f s ⟨#[c]⟩ = some (if s.data.toList.head? = some c then (s.extract 1 s.size, true) else (s, false)) := by
 have e1 : (⟨#[c]⟩ : ByteArray).size = 1 := rfl
 unfold strings_CutPrefix.f stringslite_CutPrefix.f
 rw [hasPre1, e1]
 simp only [Option.bind_some, beq_iff_eq]
 by_cases h : s.data.toList.head? = some c
 ·have hs : 1 ≤ s.size := by rw [← len_eq]; cases hl : s.data.toList with
   | nil => rw [hl] at h; simp at h
   | cons b r => simp
  rw [if_pos h, if_pos h, if_pos (by omega), if_pos (by omega)]; rfl
 ·rw [if_neg h, if_neg h]; rfl
theorem hasSuf1 (s : ByteArray) (c : UInt8) (hs : s.size ≤ 1000000) : stringslite_HasSuffix.f s ⟨#[c]⟩ = some (s.data.toList.getLast? == some c) := by
 have e1 : (⟨#[c]⟩ : ByteArray).size = 1 := rfl
 have hw : 1 ≤ s.size → wrap64 ((s.size : Int) - ((1 : Nat) : Int)) = ((s.size - 1 : Nat) : Int) := fun h => by rw [wrap64_small _ (by omega) (by omega)]; omega
 unfold stringslite_HasSuffix.f
 rw [e1]
 by_cases h : s.size = 0
 ·have hn : s.data.toList = [] := by rw [← List.length_eq_zero_iff, len_eq]; exact h
  rw [if_neg (by omega), hn]; rfl
 ·rw [if_pos (by omega), hw (by omega), if_pos (by omega), if_pos (by omega), Int.toNat_natCast, Lib.toList_data, Lib.toList_data, Lib.extract_data]
  congr 1
  have hne : s.data.toList ≠ [] := by intro h'; apply h; rw [← len_eq, h']; rfl
  have h2 : s.data.toList = s.data.toList.dropLast ++ [s.data.toList.getLast hne] := (List.dropLast_concat_getLast hne).symm
  have h3 : s.data.toList.drop (s.size - 1) = [s.data.toList.getLast hne] := by
   rw [← len_eq]
   conv => lhs; rw [h2]
   rw [List.drop_append_of_le_length (by simp), List.drop_of_length_le (by simp)]; rfl
  rw [h3, List.getLast?_eq_some_getLast hne]
  have h4 : s.size - (s.size - 1) = 1 := by omega
  rw [h4]
  simp
theorem cutSuf1 (s : ByteArray) (c : UInt8) (hs : s.size ≤ 1000000) : strings_CutSuffix.f s ⟨#[c]⟩ = some (if s.data.toList.getLast? = some c then (s.extract 0 (s.size - 1), true) else (s, false)) := by
 have e1 : (⟨#[c]⟩ : ByteArray).size = 1 := rfl
 have hw : 1 ≤ s.size → wrap64 ((s.size : Int) - ((1 : Nat) : Int)) = ((s.size - 1 : Nat) : Int) := fun h => by rw [wrap64_small _ (by omega) (by omega)]; omega
 unfold strings_CutSuffix.f stringslite_CutSuffix.f
 rw [hasSuf1 s c hs, e1]
 simp only [Option.bind_some, beq_iff_eq]
 by_cases h : s.data.toList.getLast? = some c
 ·have hs : 1 ≤ s.size := by rw [← len_eq]; cases hl : s.data.toList with
   | nil => rw [hl] at h; simp at h
   | cons b r => simp
  rw [if_pos h, if_pos h, hw hs, if_pos (by omega), if_pos (by omega), Int.toNat_natCast]; rfl
 ·rw [if_neg h, if_neg h]; rfl
def unpathF : List UInt8 → Option (List UInt8)
 | [] => none
 | b :: r => if b = 60 ∧ r.getLast? = some 62 ∧ mayP r.dropLast = true then some r.dropLast else none
theorem unpath_eq (s : ByteArray) (hs : s.size ≤ 1000000) : addr_Unpath.f s = some (match unpathF s.data.toList with | some a => (⟨a.toArray⟩, 0) | none => (⟨#[]⟩, 4)) := by
 unfold addr_Unpath.f
 rw [cutPre1]
 simp only [Option.bind_some]
 cases hl : s.data.toList with
 | nil =>
  rw [if_neg (by simp), cutSuf1 s 62 hs]
  simp only [Option.bind_some]
  rfl
 | cons b r =>
  by_cases hb : b = 60
  ·subst hb
   have hr : (s.extract 1 s.size).data.toList = r := by
    rw [Lib.extract_data, hl, List.drop_succ_cons, List.drop_zero, List.take_of_length_le]
    have := congrArg List.length hl
    rw [len_eq, List.length_cons] at this
    omega
   have hrs : (s.extract 1 s.size).size = r.length := by rw [← len_eq, hr]
   have hsz : r.length + 1 = s.size := by rw [← len_eq, hl, List.length_cons]
   have hx1 : (s.extract 1 s.size).size ≤ 1000000 := by rw [hrs]; omega
   rw [if_pos (by simp), cutSuf1 _ 62 hx1]
   simp only [Option.bind_some]
   rw [hr]
   by_cases hg : r.getLast? = some 62
   ·have hd : ((s.extract 1 s.size).extract 0 ((s.extract 1 s.size).size - 1)).data.toList = r.dropLast := by
     rw [Lib.extract_data, hr, hrs, List.drop_zero, Nat.sub_zero, List.dropLast_eq_take]
    have hds : ((s.extract 1 s.size).extract 0 ((s.extract 1 s.size).size - 1)).size ≤ 1000000 := by rw [← len_eq, hd, List.length_dropLast]; omega
    rw [if_pos hg]
    simp only [if_pos trivial]
    rw [addrPath_eq _ hds, hd]
    simp only [Option.bind_some]
    by_cases hm : mayP r.dropLast = true
    ·have hm' : r.dropLast = [] ∨ (addrParse r.dropLast).isSome = true := by unfold mayP at hm; rw [Bool.or_eq_true, decide_eq_true_eq] at hm; exact hm
     have hu : unpathF (60 :: r) = some r.dropLast := by simp only [unpathF]; rw [if_pos ⟨trivial, hg, hm⟩]
     rw [if_pos hm', if_neg (path_ne _), hu]
     exact congrArg (fun x => some (x, (0 : Int))) (ba_ext (by rw [hd]))
    ·have hm' : ¬ (r.dropLast = [] ∨ (addrParse r.dropLast).isSome = true) := by unfold mayP at hm; rw [Bool.or_eq_true, decide_eq_true_eq] at hm; exact hm
     have hu : unpathF (60 :: r) = none := by simp only [unpathF]; rw [if_neg (fun h => hm h.2.2)]
     rw [if_neg hm', hu, if_pos (by rw [Lib.toList_data])]
   ·have hu : unpathF (60 :: r) = none := by simp only [unpathF]; rw [if_neg (fun h => hg h.2.1)]
    rw [if_neg hg, hu]; rfl
  ·have hu : unpathF (b :: r) = none := by simp only [unpathF]; rw [if_neg (fun h => hb h.1)]
   rw [if_neg (by simp [hb]), cutSuf1 s 62 hs, hu]
   rfl
def pathF (pre : List UInt8) : List UInt8 → Option (List UInt8 × List UInt8)
 | [] => none
 | c :: r => if c = 62 then match unpathF (pre ++ [62]) with
  | some a => some (a, r)
  | none => pathF (pre ++ [c]) r
  else pathF (pre ++ [c]) r
theorem path_l (s : ByteArray) (hs : s.size ≤ 1000000) : ∀ k i : Nat, i ≤ s.size → s.size - i < k → cmd_path.l0 k s (s.size : Int) (i : Int) = some (match pathF (s.data.toList.take i) (s.data.toList.drop i) with | some x => (⟨x.1.toArray⟩, ⟨x.2.toArray⟩, true) | none => (⟨#[]⟩, ⟨#[]⟩, false)) := by
 intro k
 induction k with
 | zero => intro i hi hk; omega
 | succ k ih =>
  intro i hi hk
  rw [cmd_path.l0]
  by_cases h : i < s.size
  ·have hw : wrap64 ((i : Int) + 1) = ((i + 1 : Nat) : Int) := wrap64_small _ (by omega) (by omega)
   have hnx := ih (i + 1) (by omega) (by omega)
   have ht : s.data.toList.take (i + 1) = s.data.toList.take i ++ [s[i]] := by
    rw [List.take_succ_eq_append_getElem (by rw [len_eq]; exact h)]; rfl
   rw [if_pos (by omega), if_pos (by omega), if_pos (by omega), hw, drop_at s i h, bt_nat s i h]
   simp only [pathF]
   by_cases hc : s[i] = 62
   ·rw [if_pos (by rw [hc]; rfl), if_pos (by omega), if_pos (by omega), Int.toNat_natCast, if_pos hc]
    have hes : (s.extract 0 (i + 1)).data.toList = s.data.toList.take i ++ [62] := by rw [Lib.extract_data, List.drop_zero, Nat.sub_zero, ht, hc]
    have hel : (s.extract 0 (i + 1)).size ≤ 1000000 := by rw [← len_eq, hes, List.length_append, List.length_take]; simp; omega
    rw [unpath_eq _ hel, hes]
    simp only [Option.bind_some]
    cases hu : unpathF (s.data.toList.take i ++ [62]) with
    | some a =>
     simp only [if_pos trivial]
     refine congrArg (fun x => some (_, x, true)) (ba_ext ?_)
     rw [Lib.extract_data, List.take_of_length_le (by rw [List.length_drop, len_eq]; omega)]
    | none =>
     simp only
     rw [if_neg (by decide), hnx, ht, hc]
   ·have hc' : ¬ (s[i].toNat : Int) = 62 := by
     intro h'
     have h1 : s[i].toNat = (62 : UInt8).toNat := by
      have : (62 : UInt8).toNat = 62 := rfl
      omega
     exact hc (UInt8.toNat_inj.mp h1)
    rw [if_neg hc', if_neg hc, hnx, ht]
  ·rw [if_neg (by omega), List.drop_of_length_le (by rw [len_eq]; omega)]
   rfl
theorem path_eq (s : ByteArray) (hs : s.size ≤ 1000000) : cmd_path.f (s.size + 1) s = some (match pathF [] s.data.toList with | some x => (⟨x.1.toArray⟩, ⟨x.2.toArray⟩, true) | none => (⟨#[]⟩, ⟨#[]⟩, false)) := by
 have := path_l s hs (s.size + 1) 0 (Nat.zero_le _) (by omega)
 rw [List.take_zero, List.drop_zero] at this
 exact this
end Go.Proofs.YtljkopbalejcgaaDoor.P
end
section
set_option linter.unusedVariables false
set_option linter.unusedSimpArgs false
namespace Go.Proofs.YtljkopbalejcgaaDoor.P
open Go Go.RowKit Go.Lib Go.Proofs.YtljkopbalejcgaaDoorW.PrintWords
theorem runS_append {σ : Type} (step : σ → UInt8 → σ) (ok : σ → UInt8 → Bool) (x y : List UInt8) : ∀ m : σ, (runS step ok m (x ++ y)).1 = true → (runS step ok m x).1 = true ∧ (runS step ok (runS step ok m x).2 y).1 = true := by
 induction x with
 | nil => intro m h; exact ⟨rfl, h⟩
 | cons c x ih =>
  intro m h
  rw [List.cons_append] at h
  simp only [runS] at h ⊢
  by_cases hc : ok m c = true
  ·rw [if_pos hc] at h ⊢; exact ih _ h
  ·rw [if_neg hc] at h; simp at h
theorem runS_mem {σ : Type} (step : σ → UInt8 → σ) (ok : σ → UInt8 → Bool) (p : UInt8 → Prop) (hp : ∀ m c, ok m c = true → p c) (l : List UInt8) : ∀ m : σ, (runS step ok m l).1 = true → ∀ c ∈ l, p c := by
 induction l with
 | nil => intro m h c hc; simp at hc
 | cons d l ih =>
  intro m h c hc
  simp only [runS] at h
  by_cases hd : ok m d = true
  ·rw [if_pos hd] at h
   rcases List.mem_cons.1 hc with rfl | hc
   ·exact hp m c hd
   ·exact ih _ h c hc
  ·rw [if_neg hd] at h; simp at h
theorem atoms_mem (l : List UInt8) (h : atomsOk l = true) : ∀ c ∈ l, (c == 46 || atomByte c) = true := by
 unfold atomsOk at h
 rw [Bool.and_eq_true] at h
 refine runS_mem atomStep atomOk (fun c => (c == 46 || atomByte c) = true) ?_ l true h.1
 intro m c hc
 unfold atomOk at hc
 revert hc
 cases c == 46 <;> cases atomByte c <;> cases m <;> simp
theorem hasSuf_iff (l : List UInt8) (c : UInt8) : Lib.hasSuffix l [c] = true ↔ ∃ r, l = r ++ [c] := by
 unfold Lib.hasSuffix
 rw [List.isSuffixOf_iff_suffix]
 exact ⟨fun ⟨r, h⟩ => ⟨r, h.symm⟩, fun ⟨r, h⟩ => ⟨r, h.symm⟩⟩
theorem hasPre_iff (l : List UInt8) (c : UInt8) : Lib.hasPrefix l [c] = true ↔ ∃ r, l = c :: r := by
 unfold Lib.hasPrefix
 rw [List.isPrefixOf_iff_prefix]
 exact ⟨fun ⟨r, h⟩ => ⟨r, h.symm⟩, fun ⟨r, h⟩ => ⟨r, h.symm⟩⟩
theorem quoted_parts (l : List UInt8) (h : quotedOk l = true) : ∃ q, l = 34 :: (q ++ [34]) ∧ (runS markStep markOk false q).1 = true ∧ (runS markStep markOk false q).2 = false := by
 unfold quotedOk at h
 simp only [Bool.and_eq_true, Bool.not_eq_true'] at h
 obtain ⟨⟨⟨h1, h2⟩, h3⟩, h4⟩ := h
 obtain ⟨r, rfl⟩ := (hasPre_iff l 34).1 h1
 have e1 : Lib.trimPrefix (34 :: r) [34] = r := by unfold Lib.trimPrefix; rw [if_pos h1]; rfl
 rw [e1] at h2
 obtain ⟨q, rfl⟩ := (hasSuf_iff r 34).1 h2
 have e2 : quotedIn (34 :: (q ++ [34])) = q := by
  unfold quotedIn; rw [e1]; unfold Lib.trimSuffix; rw [if_pos h2]; simp
 rw [e2] at h3 h4
 exact ⟨q, rfl, h3, h4⟩
theorem quoted_prefix (x y : List UInt8) (hx : quotedOk x = true) (hxy : quotedOk (x ++ y) = true) : y = [] := by
 obtain ⟨q', hx', h1, h2⟩ := quoted_parts x hx
 obtain ⟨q, hq, h3, h4⟩ := quoted_parts (x ++ y) hxy
 rw [hx', List.cons_append, List.cons.injEq] at hq
 have hq := hq.2
 rw [List.append_assoc] at hq
 rcases List.eq_nil_or_concat y with rfl | ⟨z, b, rfl⟩
 ·rfl
 ·exfalso
  rw [List.concat_eq_append, ← List.append_assoc, ← List.append_assoc] at hq
  have hq' : q' ++ [34] ++ z = q := (List.append_inj' hq rfl).1
  rw [← hq', List.append_assoc] at h3
  have h5 := (runS_append markStep markOk q' ([34] ++ z) false h3).2
  rw [h2] at h5
  revert h5
  simp only [List.singleton_append, runS]
  rw [if_neg (by decide)]
  simp
theorem split_mem (t : List UInt8) : ∀ c ∈ t, c = 46 ∨ ∃ p ∈ splitOn 46 t, c ∈ p := by
 induction t with
 | nil => intro c hc; simp at hc
 | cons b t ih =>
  intro c hc
  by_cases hb : b = 46
  ·rcases List.mem_cons.1 hc with rfl | hc
   ·exact .inl hb
   ·rcases ih c hc with h | ⟨p, hp, hcp⟩
    ·exact .inl h
    ·refine .inr ⟨p, ?_, hcp⟩
     simp only [splitOn]; rw [if_pos (by simp [hb])]; exact List.mem_cons_of_mem _ hp
  ·have hs := splitOn_ne 46 t
   obtain ⟨x, r, hx⟩ := List.exists_cons_of_ne_nil hs
   have e : splitOn 46 (b :: t) = (b :: x) :: r := by
    simp only [splitOn]; rw [if_neg (by simp [hb]), hx]
   rw [e]
   rcases List.mem_cons.1 hc with rfl | hc
   ·exact .inr ⟨c :: x, List.mem_cons_self, List.mem_cons_self⟩
   ·rcases ih c hc with h | ⟨p, hp, hcp⟩
    ·exact .inl h
    ·rw [hx] at hp
     rcases List.mem_cons.1 hp with rfl | hp
     ·exact .inr ⟨b :: p, List.mem_cons_self, List.mem_cons_of_mem _ hcp⟩
     ·exact .inr ⟨p, List.mem_cons_of_mem _ hp, hcp⟩
theorem name_mem (t : List UInt8) (h : nameMay t = true) : ∀ c ∈ t, (c == 46 || labelByte c) = true := by
 intro c hc
 unfold nameMay at h
 simp only [Bool.and_eq_true] at h
 rcases split_mem t c hc with rfl | ⟨p, hp, hcp⟩
 ·rfl
 ·have hl := List.all_eq_true.1 h.1.2 p hp
  unfold labelOk at hl
  simp only [Bool.and_eq_true] at hl
  rw [List.all_eq_true.1 hl.2 c hcp]; simp
def domByte (c : UInt8) : Bool := c == 46 || labelByte (lower c)
theorem dom_mem (d : List UInt8) (h : nameMay (foldT d) = true) : ∀ c ∈ d, domByte c = true := by
 intro c hc
 have key : ∀ c ∈ Lib.trimSuffix d [46], domByte c = true := by
  intro c hc
  have := name_mem _ h (lower c) (by unfold foldT; exact List.mem_map_of_mem hc)
  unfold domByte
  rcases Bool.or_eq_true _ _ ▸ this with h1 | h1
  ·have h2 : lower c = 46 := by simpa using h1
   have h3 := bytes_all (fun c => !(lower c == 46) || c == 46) (by decide +kernel) c
   simp only [h2, beq_self_eq_true, Bool.not_true, Bool.false_or] at h3
   rw [h3]; rfl
  ·rw [h1]; simp
 by_cases hs : Lib.hasSuffix d [46] = true
 ·obtain ⟨r, rfl⟩ := (hasSuf_iff d 46).1 hs
  rcases List.mem_append.1 hc with hc | hc
  ·refine key c ?_
   unfold Lib.trimSuffix; rw [if_pos hs]; simpa using hc
  ·have : c = 46 := by simpa using hc
   subst this; rfl
 ·refine key c ?_
  unfold Lib.trimSuffix; rw [if_neg hs]; exact hc
theorem addr_parts (l : List UInt8) (h : (addrParse l).isSome = true) : ∃ a d, l = a ++ 64 :: d ∧ 1 ≤ a.length ∧ a.length ≤ 64 ∧ localOk a = true ∧ nameMay (foldT d) = true ∧ (∀ c ∈ d, c ≠ 64) ∧ Lib.hasSuffix l [46] = false := by
  unfold addrParse at h
  split at h
  · simp at h
  · rename_i h1
    split at h
    · simp at h
    · rename_i hloc
      split at h
      · simp at h
      · rename_i d hd
        have h2 : ¬ lastAt l < 1 := fun x => h1 (.inl x)
        have h3 : ¬ 64 < lastAt l := fun x => h1 (.inr (.inl x))
        have h4 : ¬ Lib.hasSuffix l [46] = true := fun x => h1 (.inr (.inr x))
        have hsz : (⟨l.toArray⟩ : ByteArray).size = l.length := by show l.toArray.size = _; simp
        have hsp := Lib.lastIndexByte_spec ⟨l.toArray⟩ 64
        rw [hsz] at hsp
        change (lastAt l = -1 ∧ _) ∨ (∃ i : Nat, i < l.length ∧ lastAt l = i ∧ _ ∧ _) at hsp
        rcases hsp with ⟨e, _⟩ | ⟨i, hi, e, hc, hn⟩
        · omega
        · have hti : (lastAt l).toNat = i := by omega
          have hat : ∀ j, (hj : j < l.length) → (((⟨l.toArray⟩ : ByteArray).data[j]!).toNat : Int) = ((l[j]'hj).toNat : Int) := by
            intro j hj
            rw [getElem!_pos _ j (by simpa using hj)]
            simp
          rw [hti] at hloc hd
          have hg : l[i] = 64 := by
            have := (hat i hi).symm.trans hc
            exact UInt8.toNat_inj.mp (by have h64 : (64 : UInt8).toNat = 64 := rfl
                                         omega)
          refine ⟨l.take i, l.drop (i + 1), ?_, ?_, ?_, ?_, ?_, ?_, ?_⟩
          · have := List.drop_eq_getElem_cons hi
            rw [hg] at this
            rw [← this, List.take_append_drop]
          · rw [List.length_take]; omega
          · rw [List.length_take]; omega
          · simpa using hloc
          · unfold foldName at hd
            split at hd
            · assumption
            · simp at hd
          · intro c hc' he
            subst he
            obtain ⟨j, hj, hjc⟩ := List.getElem_of_mem hc'
            rw [List.getElem_drop] at hjc
            rw [List.length_drop] at hj
            have := hn (i + 1 + j) (by omega) (by omega)
            rw [hat (i + 1 + j) (by omega), hjc] at this
            exact this rfl
          · simpa using h4
theorem no_early (a : List UInt8) (ha : mayP a = true) (j : Nat) (hj : j < a.length) (hc : a[j] = 62) : mayP (a.take j) = false := by
 unfold mayP at ha
 have hne : ¬ a = [] := by intro h; rw [h] at hj; simp at hj
 rw [decide_eq_false hne, Bool.false_or] at ha
 obtain ⟨loc, d, rfl, h1, h2, hloc, hname, hd, hsuf⟩ := addr_parts a ha
 have hdom := dom_mem d hname
 have hjl : j < loc.length := by
  by_cases h : j < loc.length
  ·exact h
  ·exfalso
   rw [List.getElem_append_right (by omega)] at hc
   by_cases hz : j - loc.length = 0
   ·simp only [hz, List.getElem_cons_zero] at hc; exact absurd hc (by decide)
   ·obtain ⟨z, hz'⟩ : ∃ z, j - loc.length = z + 1 := ⟨j - loc.length - 1, by omega⟩
    simp only [hz', List.getElem_cons_succ] at hc
    have := hdom _ (List.getElem_mem (by rw [List.length_append, List.length_cons] at hj; omega : z < d.length))
    rw [hc] at this
    exact absurd this (by decide)
 rw [List.getElem_append_left hjl] at hc
 have hmem : (62 : UInt8) ∈ loc := hc ▸ List.getElem_mem hjl
 have hq : quotedOk loc = true := by
  unfold localOk at hloc
  rcases Bool.or_eq_true _ _ ▸ hloc with h | h
  ·exact absurd (atoms_mem loc h 62 hmem) (by decide)
  ·exact h
 rw [List.take_append_of_le_length (by omega)]
 obtain ⟨q, hql, _, _⟩ := quoted_parts loc hq
 have hj0 : 1 ≤ j := by
  rcases Nat.eq_zero_or_pos j with rfl | h
  ·exfalso; simp only [hql, List.getElem_cons_zero] at hc; exact absurd hc (by decide)
  ·exact h
 cases hm : mayP (loc.take j) with
 | false => rfl
 | true =>
  exfalso
  unfold mayP at hm
  have hne2 : ¬ loc.take j = [] := by
   intro h; have := congrArg List.length h; rw [List.length_take, List.length_nil] at this; omega
  rw [decide_eq_false hne2, Bool.false_or] at hm
  obtain ⟨loc', d', he, h1', h2', hloc', _, _, _⟩ := addr_parts _ hm
  have hlen : loc'.length < loc.length := by
   have := congrArg List.length he; rw [List.length_take, List.length_append, List.length_cons] at this; omega
  have hpre : loc = loc' ++ (64 :: d' ++ loc.drop j) := by
   have := List.take_append_drop j loc
   rw [he, List.append_assoc] at this
   exact this.symm
  have hhead : loc'.head? = some 34 := by
   have : loc.head? = some 34 := by rw [hql]; rfl
   rw [hpre] at this
   cases loc' with
   | nil => simp at h1'
   | cons b r => simpa using this
  have hq' : quotedOk loc' = true := by
   unfold localOk at hloc'
   rcases Bool.or_eq_true _ _ ▸ hloc' with h | h
   ·exact absurd (atoms_mem loc' h 34 (List.mem_of_head? hhead)) (by decide)
   ·exact h
  rw [hpre] at hq
  have := quoted_prefix _ _ hq' hq
  simp at this
theorem pathF_at (a r : List UInt8) : ∀ (x pre : List UInt8), (∀ j, (hj : j < x.length) → x[j] = 62 → unpathF (pre ++ x.take j ++ [62]) = none) → unpathF (pre ++ x ++ [62]) = some a → pathF pre (x ++ 62 :: r) = some (a, r) := by
 intro x
 induction x with
 | nil =>
  intro pre h1 h2
  rw [List.append_nil] at h2
  simp only [List.nil_append, pathF]
  rw [if_pos trivial, h2]
 | cons c x ih =>
  intro pre h1 h2
  have hrec := ih (pre ++ [c]) (fun j hj hx => by
   have := h1 (j + 1) (by simpa using hj) (by simpa using hx)
   rw [List.take_succ_cons] at this
   rw [← this]; simp) (by rw [← h2]; simp)
  simp only [List.cons_append, pathF]
  by_cases hc : c = 62
  ·have := h1 0 (by simp) (by simpa using hc)
   rw [List.take_zero, List.append_nil] at this
   rw [if_pos hc, this]
   exact hrec
  ·rw [if_neg hc]; exact hrec
theorem unpath_mk (a : List UInt8) : unpathF (60 :: (a ++ [62])) = if mayP a = true then some a else none := by
 simp only [unpathF]
 rw [List.getLast?_append, List.dropLast_concat]
 simp
theorem path_mk (a r : List UInt8) (ha : mayP a = true) : pathF [] (60 :: (a ++ 62 :: r)) = some (a, r) := by
 have := pathF_at a r (60 :: a) [] (fun j hj hx => ?_) ?_
 ·simpa using this
 ·cases j with
  | zero => simp only [List.getElem_cons_zero] at hx; exact absurd hx (by decide)
  | succ j =>
   rw [List.getElem_cons_succ] at hx
   have h := no_early a ha j (by simpa using hj) hx
   have := unpath_mk (a.take j)
   rw [h] at this
   rw [List.take_succ_cons]
   simpa using this
 ·have := unpath_mk a
  rw [if_pos ha] at this
  simpa using this
end Go.Proofs.YtljkopbalejcgaaDoor.P
end
section
namespace Go.Proofs.YtljkopbalejcgaaDoor.P
open Go.RowKit Go.Proofs.YtljkopbalejcgaaDoorW.PrintWords Go.Proofs.YtljkopbalejcgaaDoorW.PrintLast Go.Proofs.YtljkopbalejcgaaDoorW.PrintMore
attribute [local go_sem] max2_int min2_int max_two min_two max_three min_three max_four min_four
set_option linter.unusedVariables false
set_option linter.unusedSimpArgs false
open Go Go.Lib
set_option maxHeartbeats 2000000 in
set_option maxRecDepth 100000 in
theorem great_any (s : ByteArray) (w : World) (hs : s.size ≤ 140737488351232) :
  Calls Tryd.prog 29 #[.string s] w fun e w' => e = .returned (.string ⟨(s.data.toList.map upper).toArray⟩) ∧ Below w.heap.size w w' := by
 have hcv := _root_.Go.Lib.run_convert_string_bytes (P := Tryd.prog) w 9 59 5 s Tryd.underlying9 Tryd.underlying59 Tryd.underlying5
 have hrow := brow_conv w 5 s
 have hbel := below_conv w 5 s
 have hl := len_eq s
 generalize bytesWorld w 5 s = W1 at hcv hrow hbel
 generalize grownCap w s.size 0 5 = cap at hcv
 generalize s.data.toList = l at hrow hl ⊢
 have HR : Aside0 (BRow W1 w.heap.size l) := ⟨hrow⟩
 have HB : Aside0 (Below w.heap.size w W1) := ⟨hbel⟩
 have HL := Lib.hid hl
 clear hrow hbel hl
 go_enter Tryd.func29, Tryd.ntmps29
 go_wp2
 go_loopg [10] s.size (fun gk i wr => ∃ k : Nat, k ≤ s.size ∧ s.size - k ≤ gk ∧ i = .int .i64 k ∧ Aside0 (BRow wr w.heap.size (turned upper l k)) ∧ Aside0 (Below w.heap.size w wr))
 case atStart => exact ⟨0, by omega, by omega, rfl, ⟨by rw [turned_zero]; exact HR.out⟩, HB⟩
 case round =>
  clear HR HB hcv
  obtain ⟨k, hk, hg, rfl, HR, HB⟩ := hrel
  by_cases hlt : k < s.size
  ·have hlt' : k < l.length := by rw [HL.out]; exact hlt
   have hat := turned_at upper l k hlt'
   have hcell := HR.out k (by rw [turned_len]; exact hlt')
   rw [hat] at hcell
   obtain ⟨hc, hf⟩ := hcell
   have HS := Lib.hid (turned_succ upper l k hlt')
   have HK := Lib.hid (turned_keep upper l k hlt')
   have hu1 := @upper_t l[k]
   have hu2 := @upper_f l[k]
   generalize l[k] = c at hc HS HK hu1 hu2
   have HU1 := Lib.hid hu1
   have HU2 := Lib.hid hu2
   clear hat hu1 hu2
   have hb : 0 ≤ (c.toNat : Int) ∧ (c.toNat : Int) ≤ 255 := by have := c.toNat_lt; omega
   go_wp2
   all_goals
    go_roundg (s.size - (k + 1))
    case measure => omega
    case rel => first
     | exact ⟨k + 1, by omega, by omega, by go_num, ⟨by rw [← HS.out, show (c.toNat : Int) - 97 + 65 = ((upper c).toNat : Int) by rw [HU1.out ⟨by omega, by omega⟩]; omega]; exact brow_set HR.out k (by rw [turned_len]; exact hlt') (upper c)⟩, ⟨HB.out.setCell (p := ⟨w.heap.size, k, none⟩) (Nat.le_refl _) _⟩⟩
     | exact ⟨k + 1, by omega, by omega, by go_num, ⟨by rw [HK.out (HU2.out (by omega))]; exact HR.out⟩, HB⟩
  ·have e : k = s.size := by omega
   subst e
   have hs2 := brow_str (P := Tryd.prog) HR.out 59 5 9 Tryd.underlying59 Tryd.underlying5 Tryd.underlying9 cap
   rw [turned_len, HL.out, show turned upper l s.size = l.map upper by rw [← HL.out]; exact turned_all upper l] at hs2
   go_wp2
   go_ret
   exact ⟨rfl, HB.out⟩
def cmd_great.f (a : ByteArray) : Option ByteArray := if a.size ≤ 140737488351232 then some ⟨(a.data.toList.map upper).toArray⟩ else none
theorem cmd_great.calls (a : ByteArray) (r : ByteArray) (w : World) (h : cmd_great.f a = some r) :
  Calls Tryd.prog 29 #[.string a] w fun e w' => e = .returned (.string r) ∧ Below w.heap.size w w' := by
 unfold cmd_great.f at h
 split at h
 ·rename_i hs
  obtain rfl := Option.some.inj h
  exact great_any a w hs
 ·simp at h
end Go.Proofs.YtljkopbalejcgaaDoor.P
end
section
set_option linter.unusedVariables false
set_option linter.unusedSimpArgs false
namespace Go.Proofs.YtljkopbalejcgaaDoor.P
open Go Go.RowKit Go.Lib Go.Proofs.YtljkopbalejcgaaDoorW.PrintWords
def wordsA : Array Value := #[.string ⟨#[]⟩, .string ⟨#[69, 72, 76, 79, 32]⟩, .string ⟨#[83, 84, 65, 82, 84, 84, 76, 83]⟩, .string ⟨#[77, 65, 73, 76, 32, 70, 82, 79, 77, 58]⟩, .string ⟨#[82, 67, 80, 84, 32, 84, 79, 58]⟩, .string ⟨#[68, 65, 84, 65]⟩, .string ⟨#[81, 85, 73, 84]⟩]
set_option maxHeartbeats 400000 in
theorem words_calls (w : World) : Calls Tryd.prog 26 #[] w fun e w' => e = .returned (.agg wordsA) ∧ Below w.heap.size w w' := by
 go_enter Tryd.func26, Tryd.ntmps26
 go_wp2
 exact bodyPost_ret (v := .agg wordsA) (by simp [results, Tryd.results26, go_sem, wordsA]) rfl ⟨rfl, below_alloc (Below.refl _ _) _⟩
def wordB (v : Int) : ByteArray := if v = 1 then ⟨#[69, 72, 76, 79, 32]⟩ else if v = 2 then ⟨#[83, 84, 65, 82, 84, 84, 76, 83]⟩ else if v = 3 then ⟨#[77, 65, 73, 76, 32, 70, 82, 79, 77, 58]⟩ else if v = 4 then ⟨#[82, 67, 80, 84, 32, 84, 79, 58]⟩ else if v = 5 then ⟨#[68, 65, 84, 65]⟩ else ⟨#[81, 85, 73, 84]⟩
theorem run_words (k : IntKind) (i : Nat) (hi : i < 7) (w : World) : (Instr.index 61 (.agg wordsA) (.int k i)).run Tryd.prog w = .ok (wordsA.getD i undef) w := by
 have h7 : i = 0 ∨ i = 1 ∨ i = 2 ∨ i = 3 ∨ i = 4 ∨ i = 5 ∨ i = 6 := by omega
 rcases h7 with rfl | rfl | rfl | rfl | rfl | rfl | rfl <;> simp [Instr.index, run_underlying Tryd.underlying61, asIntOf, go_sem, wordsA]
theorem run_wordB (k : IntKind) (v : Int) (hv : v = 1 ∨ v = 2 ∨ v = 3 ∨ v = 4 ∨ v = 5 ∨ v = 6) (w : World) : (Instr.index 61 (.agg wordsA) (.int k v)).run Tryd.prog w = .ok (.string (wordB v)) w := by
 rcases hv with rfl | rfl | rfl | rfl | rfl | rfl
 ·exact run_words k 1 (by decide) w
 ·exact run_words k 2 (by decide) w
 ·exact run_words k 3 (by decide) w
 ·exact run_words k 4 (by decide) w
 ·exact run_words k 5 (by decide) w
 ·exact run_words k 6 (by decide) w
theorem wordB_size (v : Int) : (wordB v).size ≤ 10 := by unfold wordB; repeat (split; decide); all_goals first | decide | skip
end Go.Proofs.YtljkopbalejcgaaDoor.P
end
section
set_option linter.unusedVariables false
set_option linter.unusedSimpArgs false
namespace Go.Proofs.YtljkopbalejcgaaDoor.P
open Go Go.RowKit Go.Lib Go.Proofs.YtljkopbalejcgaaDoorW.PrintWords Go.Proofs.YtljkopbalejcgaaDoorW.PrintMore
theorem R_appendIn {α : Type} {F : Fence} {n : Nat} {P : Program} {ops : Array Oper} {rest : List Oper} {o : Oper} {a : Act} {Q : Exit → Act → World → Prop} (d : Kd α) {w0 W : World} (base : Nat) (hgd : o.guard = none) (s x : Operand) (t e : TypeId) (z : Value) (bytes : Nat)
  (ho : o.op = .call { callee := .builtin .append, args := #[s, x], argTypes := #[t, t] })
  (ht : P.underlying t = some (.slice e)) (hinfo : (P.info? e).map (fun i => (i.zero, i.size, i.bytes)) = some (some z, d.sz, bytes)) (hz : z.cells.size = d.sz) (hs0 : 0 < d.sz) (hb0 : 0 < bytes)
  (v : Value) (xs : List α) (p : α) (cs : List Value) (ok okp : Nat → Prop) (hs : a.eval s = v) (hx : a.eval x = .slice (some ⟨W.heap.size, 0, none⟩) 1 1) (hp : d.M W base okp p cs) (hokp : ∀ k, okp k → ok k ∧ some k ≠ v.ownBlock) (hfresh : ∀ k, W.heap.size ≤ k → ok k)
  (HO : d.R e W base ok v xs) (HB : Below base w0 W) (hbase : base ≤ W.heap.size) (hl : (xs.length + 1) * bytes ≤ 140737488355328)
  (h : ∀ v1 w1, d.R e w1 base ok v1 (xs ++ [p]) → Below base w0 w1 → W.grownBy w1 v.ownBlock → (v1.ownBlock = v.ownBlock ∨ ∃ b, v1.ownBlock = some b ∧ W.heap.size ≤ b) → wpListIn F n P ops Q rest (a.put o.dst v1) w1) :
  wpListIn F n P ops Q (o :: rest) a (W.alloc (.cells cs.toArray e)) := by
 obtain ⟨h0, inner, hown, hr⟩ := HO
 obtain ⟨i0, hi, hzz⟩ := Option.map_eq_some_iff.1 hinfo
 simp only [Prod.mk.injEq] at hzz
 obtain ⟨hz0, hz1, hz2⟩ := hzz
 have hys := d.K_len (d.K_of_M hp)
 have h1 := d.K_one (d.K_of_M hp)
 have hlen : xs.length + 1 ≤ 140737488355328 := Nat.le_trans (Nat.le_mul_of_pos_right _ hb0) hl
 refine wpListIn_plain hgd fun K hK' => ?_
 obtain ⟨v', w', hrun, r1, r2, r3, r4⟩ := run_append_own_at (P := P) (W.alloc (.cells cs.toArray e)) base t o.type e i0 z d.sz bytes ht hi hz0 hz1 hz2 hz hs0 v xs.length inner (hown.alloc _) ⟨W.heap.size, 0, none⟩ 1 1 cs (by rw [hys]; simp)
  (by simpa using World.news_of_block (cs := cs.toArray) (t := e) (fr := (0, 0)) (heap_alloc_new W (.cells cs.toArray e))) h1 (by simp only [maxLen]; omega) hl (by simp; omega)
 have hg : W.grownBy w' v.ownBlock := World.grownBy.trans (World.grownBy_alloc W _ _) r2
 have hat : v'.ownBlock = v.ownBlock ∨ ∃ b, v'.ownBlock = some b ∧ W.heap.size ≤ b := by
  rcases r4 with r4 | r4
  ·exact .inl r4
  ·exact .inr ⟨_, r4, by simp⟩
 unfold Oper.wpIn
 refine ⟨?_, ?_⟩
 ·simp [Oper.about, ho, resolve, Target.leads, Sem.run_pure]
 ·rw [Oper.semAt_plain F _ _ (by rw [ho]; intro c hc'; cases hc')]
  simp [execOp, ho, resolve, invoke, builtin, hs, hx, hrun, Result.andThen]
  exact hK' _ _ (h v' w' (Kd.R_appended h0 hr hp hokp hfresh r1 hg hat) ((HB.alloc hbase _).grown r2 (by simp; omega) (own_base hown)) hg hat)
theorem R_grown {α : Type} {d : Kd α} {e base : Nat} {ok : Nat → Prop} {W W' : World} {v : Value} {xs : List α} {row : Option Nat} (hE : d.E = []) (h : d.R e W base ok v xs) (hg : W.grownBy W' row)
  (hr : ∀ r, row = some r → (¬ ok r) ∨ (∃ o : Obj, W.heap[r]? = some o ∧ o.isCells = false)) : d.R e W' base ok v xs := by
 cases row with
 | none => exact Kd.R_step h (fun k _ hk => hg.block k hk (by simp))
 | some r =>
  rcases hr r rfl with hr | ⟨o, ho, hc⟩
  ·exact Kd.R_step h (fun k hok hk => hg.block k hk (fun e => by cases e; exact hr hok))
  ·have hne : some r ≠ v.ownBlock := by
    obtain ⟨inner, hown⟩ := Kd.R_own h
    intro e'
    rcases hown.2 with ⟨hv, _⟩ | ⟨g', cap, cur, hv, _, hh, _⟩
    ·rw [hv] at e'; simp [Value.ownBlock] at e'
    ·rw [hv] at e'
     have : r = g' := by simpa [Value.ownBlock] using e'
     subst this
     rw [ho] at hh; cases hh; simp [Obj.isCells] at hc
   exact Kd.R_mono (Kd.R_step (Kd.R_far1 h hE hne) (fun k hok hk => hg.block k hk (fun e => by cases e; exact hok.2 rfl))) (fun _ hk => hk.1)
end Go.Proofs.YtljkopbalejcgaaDoor.P
end
section
set_option linter.unusedVariables false
set_option linter.unusedSimpArgs false
namespace Go.Proofs.YtljkopbalejcgaaDoor.P
open Go Go.RowKit
theorem grown_of_below' {w w' : World} (h : Below w.heap.size w w') : w.grownBy w' none := ⟨h.os, h.tape, h.output, h.size, fun k hk _ => h.block k hk⟩
theorem wpIn_rangeB2 {α : Type} {P : Program} {g : Operand} {ps : Array Tmp} {assign body : Code} {Q : Exit → Act → World → Prop} {a : Act} {w : World}
  {gf : Nat} {lb : Array Value} (hg : a.eval g = .func (.func gf) #[] lb) (eg : ∀ args w, (callFunc gf args).run P w = .ok (.enter gf args) w)
  {encs : α → Array Value} {xs : List α} {B : Nat} {Pre : World → Prop} (hseq : IterB P gf lb encs xs B Pre) (hB : B < w.heap.size)
  (hPre : ∀ W, Below w.heap.size w W → Pre W) (hps : ∀ x, (encs x).size = ps.size)
  (I : Nat → World → Prop) (Ix : Code → Nat → World → Prop) (hI : OwnB w.heap.size B I) (hIx : ∀ c, OwnB w.heap.size B (Ix c)) (h0 : I 0 w) (G : α → Act → World → Prop) (hG : ∀ x a', OwnB w.heap.size B (fun (_ : Unit) W => G x a' W))
  (hassign : ∀ (l : Nat) (x : α) (W : World) (K : Act → World → Prop), w.heap.size ≤ W.heap.size → (∀ a' W', Below W.heap.size W W' → G x a' W' → K a' W') →
   assign.wpIn (Fence.wide.inRound l) 0 P (Exit.then K (fun _ _ _ => False)) { tmps := (ps.zip (encs x)).foldl (fun t (p, v) => t.setIfInBounds p v) a.tmps, defers := [] } W)
  (hbody : ∀ (l i : Nat) (hi : i < xs.length) (a' : Act) (W : World), w.heap.size ≤ W.heap.size → I i W → G xs[i] a' W → body.wpIn (Fence.wide.inRound l) 0 P (postB w.heap.size B I Ix (i + 1) W) a' W)
  (hdone : ∀ (D : Nat) (W : World), w.heap.size ≤ D → I xs.length W → W.heap[D]? = some (.deferred (some [])) → Q .normal { a with defers := { target := .collected D, args := #[] } :: a.defers } W)
  (hstop : ∀ (D : Nat) (c : Code) (i : Nat) (W : World), w.heap.size ≤ D → i ≤ xs.length → Ix c i W → W.heap[D]? = some (.deferred (some [])) → c.wpIn Fence.wide 0 P Q { a with defers := { target := .collected D, args := #[] } :: a.defers } W) :
  (Code.rangeFunc g ps assign body).wpIn Fence.wide 0 P Q a w := by
 refine wpIn_rangeFunc ?_
 intro fn hfn
 rw [Fence.wide_round]
 obtain ⟨rec, hrec⟩ : ∃ rec : LoopState → Option Code → Loop, rec = fun st pe => { state := st, pending := pe, fn, tmps := a.tmps, params := ps, assign, body, defers := w.heap.size } := ⟨_, rfl⟩
 obtain ⟨W1, hW1⟩ : ∃ W1, (w.alloc (.deferred (some []))).alloc (.loop (rec .ready none)) = W1 := ⟨_, rfl⟩
 have hsz1 : W1.heap.size = w.heap.size + 2 := by rw [← hW1]; simp
 have hL1 : W1.heap[w.heap.size + 1]? = some (.loop (rec .ready none)) := by
  rw [← hW1]; have := World.alloc_heap_new (w.alloc (.deferred (some []))) (.loop (rec .ready none)); rwa [World.size_alloc] at this
 have hK1 : W1.heap[w.heap.size]? = some (.deferred (some [])) := by
  rw [← hW1]; exact (Below.heap_alloc _ _ _ (by simp)).trans (World.alloc_heap_new w _)
 have hI1 : I 0 W1 := by rw [← hW1]; exact hI.alloc _ (hI.alloc _ h0)
 have hb1 : Below w.heap.size w W1 := by
  rw [← hW1]; exact ((Below.refl _ w).alloc (Nat.le_refl _) _).alloc (by simp) _
 have hne : ∀ {A A' : World} {k : Nat} {o : Obj}, A.grownBy A' (some B) → w.heap.size ≤ k → A.heap[k]? = some o → A'.heap[k]? = some o := fun hg' hk ho =>
  (hg'.block _ (Array.getElem?_eq_some_iff.1 ho).1 (fun e => by cases e; omega)).trans ho
 refine ⟨w.heap.size + 1, [{ target := .collected w.heap.size, args := #[] }], W1, { target := .fn (.func gf) lb, args := #[.func (.yield (w.heap.size + 1)) #[] #[]] }, W1, gf,
  #[.func (.yield (w.heap.size + 1)) #[] #[]] ++ lb, W1, ?_, ?_, fun _ _ => trivial, ?_, fun h => absurd h (by simp [Fence.wide]), ?_⟩
 ·rw [← hW1, hrec]; exact run_enterLoop_outer _ _ _ _ _
 ·simp only [resolve, hg]
  simp [go_sem]
 ·simp [invoke, go_sem, eg]
 ·refine (hseq (w.heap.size + 1)
   (fun i W => I i W ∧ w.heap.size + 2 ≤ W.heap.size ∧ W.heap[w.heap.size + 1]? = some (.loop (rec .ready none)) ∧ W.heap[w.heap.size]? = some (.deferred (some [])))
   (fun i W => ∃ c, Ix c i W ∧ W.heap[w.heap.size + 1]? = some (.loop (rec .done (some c))) ∧ W.heap[w.heap.size]? = some (.deferred (some [])))
   W1 (hPre W1 hb1)
   (fun i A A' hs hg' => ⟨hI i A A' (some B) hs.1 hg' (fun r e => by cases e; exact .inl rfl), Nat.le_trans hs.2.1 hg'.size, hne hg' (by omega) hs.2.2.1, hne hg' (Nat.le_refl _) hs.2.2.2⟩)
   (fun i A A' hs hg' => by
    obtain ⟨c, hc, hl, hk⟩ := hs
    exact ⟨c, hIx c i A A' (some B) hc hg' (fun r e => by cases e; exact .inl rfl), hne hg' (by omega) hl, hne hg' (Nat.le_refl _) hk⟩)
   ?_ ⟨hI1, by omega, hL1, hK1⟩).mono ?_
  ·rintro i hi W ⟨hin, hsz, hl, hk⟩
   have hlt : w.heap.size + 1 < W.heap.size := (Array.getElem?_eq_some_iff.1 hl).1
   have hy := run_yield (P := P) (args := encs xs[i]) hl (by rw [hrec]; exact hps xs[i])
   rw [hrec] at hy
   refine ⟨fn, _, assign, body, hy, roundIn_of_wpIn hfn (hassign _ xs[i] W _ (by omega) (fun a' W' hbW hgW => ⟨_, run_beginRound (show W'.heap[w.heap.size + 1]? = some (.loop (rec .ready none)) from (hbW.block _ hlt).trans hl) (by rw [hrec]), ?_⟩))⟩
   have hl' : W'.heap[w.heap.size + 1]? = some (.loop (rec .ready none)) := (hbW.block _ hlt).trans hl
   have hlt' : w.heap.size + 1 < W'.heap.size := (Array.getElem?_eq_some_iff.1 hl').1
   have hin' : I i W' := hI _ _ _ none hin (grown_of_below' hbW) (fun r e => by cases e)
   have hl2 : (W'.putObj (w.heap.size + 1) (.loop { rec .ready none with state := .busy })).heap[w.heap.size + 1]? = some (.loop { rec .ready none with state := .busy }) := World.putObj_heap_same hlt'
   have hk2 : (W'.putObj (w.heap.size + 1) (.loop { rec .ready none with state := .busy })).heap[w.heap.size]? = some (.deferred (some [])) := (World.putObj_heap_other (by omega)).trans ((hbW.block _ (by omega)).trans hk)
   have hB2 : (W'.putObj (w.heap.size + 1) (.loop { rec .ready none with state := .busy })).heap[B]? = W.heap[B]? := (World.putObj_heap_other (by omega)).trans (hbW.block _ (by omega))
   refine wpIn_mono (hbody _ i hi a' _ (by simp; omega) (hI.putObj _ hin' (by omega) hl' rfl) ((hG xs[i] a').putObj (s := ()) _ hgW (by omega) hl' rfl)) ?_
   have fin : ∀ (jump : Option Code) (W3 : World), KeepsFrom w.heap.size (W'.putObj (w.heap.size + 1) (.loop { rec .ready none with state := .busy })) W3 →
     (Instr.endRound (w.heap.size + 1) jump).run P W3 = .ok (.bool jump.isNone) (W3.putObj (w.heap.size + 1) (.loop (rec (if jump.isNone then .ready else .done) jump))) ∧
     W3.heap[w.heap.size + 1]? = some (.loop { rec .ready none with state := .busy }) ∧
     (W3.putObj (w.heap.size + 1) (.loop (rec (if jump.isNone then .ready else .done) jump))).heap[w.heap.size + 1]? = some (.loop (rec (if jump.isNone then .ready else .done) jump)) ∧
     (W3.putObj (w.heap.size + 1) (.loop (rec (if jump.isNone then .ready else .done) jump))).heap[w.heap.size]? = some (.deferred (some [])) := fun jump W3 hk3 => by
    have hl3 := hk3.same _ _ (by omega) hl2 rfl
    have := run_endRound (P := P) jump hl3
    rw [hrec] at this ⊢
    exact ⟨this, by rw [hrec] at hl3; exact hl3, World.putObj_heap_same (Array.getElem?_eq_some_iff.1 hl3).1, (World.putObj_heap_other (by omega)).trans (hk3.same _ _ (Nat.le_refl _) hk2 rfl)⟩
   rintro e a3 W3 hp
   cases e with
   | normal =>
    obtain ⟨hk3, hb3, hi3⟩ := hp
    obtain ⟨hr, hl3, hl4, hk4⟩ := fin none W3 hk3
    have hs3 : W.heap.size ≤ W3.heap.size := by have := hk3.size; have h2 := hbW.size; simp at this; omega
    exact ⟨_, _, hr, .inl ⟨rfl, ⟨hI.putObj _ hi3 (by omega) hl3 rfl, by simp; omega, hl4, hk4⟩, by simpa using hs3, (World.putObj_heap_other (by omega)).trans (hb3.trans hB2)⟩⟩
   | ret =>
    obtain ⟨hk3, hi3⟩ := hp
    obtain ⟨hr, hl3, hl4, hk4⟩ := fin (some .ret) W3 hk3
    exact ⟨_, _, hr, .inr ⟨rfl, .ret, (hIx _).putObj _ hi3 (by omega) hl3 rfl, hl4, hk4⟩⟩
   | exit id =>
    obtain ⟨hk3, hi3⟩ := hp
    obtain ⟨hr, hl3, hl4, hk4⟩ := fin (some (.exit id)) W3 hk3
    exact ⟨_, _, hr, .inr ⟨rfl, .exit id, (hIx _).putObj _ hi3 (by omega) hl3 rfl, hl4, hk4⟩⟩
   | goto t =>
    obtain ⟨hk3, hi3⟩ := hp
    obtain ⟨hr, hl3, hl4, hk4⟩ := fin (some (.goto t)) W3 hk3
    exact ⟨_, _, hr, .inr ⟨rfl, .goto t, (hIx _).putObj _ hi3 (by omega) hl3 rfl, hl4, hk4⟩⟩
   | panic ch => exact hp.elim
   | outgrown => exact hp.elim
  ·rintro e W2 ⟨⟨v, rfl⟩, (⟨hi, _, hl, hk⟩ | ⟨i, hle, c, hi, hl, hk⟩)⟩
   ·exact ⟨none, _, by have := run_endLoop (P := P) hl (by rw [hrec]; simp); rw [hrec] at this; exact this, hdone _ _ (Nat.le_refl _) (hI.putObj _ hi (by omega) hl rfl) ((World.putObj_heap_other (by omega)).trans hk)⟩
   ·exact ⟨some c, _, by have := run_endLoop (P := P) hl (by rw [hrec]; simp); rw [hrec] at this; exact this, hstop _ c i _ (Nat.le_refl _) hle ((hIx c).putObj _ hi (by omega) hl rfl) ((World.putObj_heap_other (by omega)).trans hk)⟩
end Go.Proofs.YtljkopbalejcgaaDoor.P
end
section
namespace Go.Proofs.YtljkopbalejcgaaDoor.P
open Go.RowKit Go.Proofs.YtljkopbalejcgaaDoorW.PrintWords Go.Proofs.YtljkopbalejcgaaDoorW.PrintLast Go.Proofs.YtljkopbalejcgaaDoorW.PrintMore
attribute [local go_sem] max2_int min2_int max_two min_two max_three min_three max_four min_four
set_option linter.unusedVariables false
set_option linter.unusedSimpArgs false
open Go Go.Lib
def toldF : Nat → List UInt8 → List ((List UInt8 × List UInt8) × List UInt8)
 | 0, _ => []
 | k + 1, s => if s = [] then [] else
  if (!Lib.hasPrefix s [32] || !paramOk ((Lib.cut (Lib.cut (Lib.trimPrefix s [32]) [32]).1 [61]).1.map upper) (Lib.cut (Lib.cut (Lib.trimPrefix s [32]) [32]).1 [61]).2.1 || ((Lib.cut (Lib.cut (Lib.trimPrefix s [32]) [32]).1 [61]).2.2 && (Lib.cut (Lib.cut (Lib.trimPrefix s [32]) [32]).1 [61]).2.1.isEmpty)) = true then []
  else (((Lib.cut (Lib.cut (Lib.trimPrefix s [32]) [32]).1 [61]).1.map upper, (Lib.cut (Lib.cut (Lib.trimPrefix s [32]) [32]).1 [61]).2.1), (Lib.cut (Lib.trimPrefix s [32]) [32]).2.1) ::
   toldF k (if (Lib.cut (Lib.trimPrefix s [32]) [32]).2.2 = true then 32 :: (Lib.cut (Lib.trimPrefix s [32]) [32]).2.1 else (Lib.cut (Lib.trimPrefix s [32]) [32]).2.1)
theorem toldF_succ (k : Nat) (s : List UInt8) (h : s ≠ []) : toldF (k + 1) s =
  if (!Lib.hasPrefix s [32] || !paramOk ((Lib.cut (Lib.cut (Lib.trimPrefix s [32]) [32]).1 [61]).1.map upper) (Lib.cut (Lib.cut (Lib.trimPrefix s [32]) [32]).1 [61]).2.1 || ((Lib.cut (Lib.cut (Lib.trimPrefix s [32]) [32]).1 [61]).2.2 && (Lib.cut (Lib.cut (Lib.trimPrefix s [32]) [32]).1 [61]).2.1.isEmpty)) = true then []
  else (((Lib.cut (Lib.cut (Lib.trimPrefix s [32]) [32]).1 [61]).1.map upper, (Lib.cut (Lib.cut (Lib.trimPrefix s [32]) [32]).1 [61]).2.1), (Lib.cut (Lib.trimPrefix s [32]) [32]).2.1) ::
   toldF k (if (Lib.cut (Lib.trimPrefix s [32]) [32]).2.2 = true then 32 :: (Lib.cut (Lib.trimPrefix s [32]) [32]).2.1 else (Lib.cut (Lib.trimPrefix s [32]) [32]).2.1) := by rw [toldF, if_neg h]
theorem grown_of_below {w w' : World} (h : Below w.heap.size w w') (row : Option Nat) : w.grownBy w' row := ⟨h.os, h.tape, h.output, h.size, fun k hk _ => h.block k hk⟩
theorem cut_len1 (l : List UInt8) (c : UInt8) : (Lib.cut l [c]).1.length ≤ l.length := by
 unfold Lib.cut
 split
 ·simp only [List.length_take]; omega
 ·simp
theorem trim_len (l p : List UInt8) : (Lib.trimPrefix l p).length ≤ l.length := by
 unfold Lib.trimPrefix; split
 ·rw [List.length_drop]; omega
 ·exact Nat.le_refl _
theorem trim_lt (l : List UInt8) (h : Lib.hasPrefix l [32] = true) : (Lib.trimPrefix l [32]).length < l.length := by
 cases l with
 | nil => simp [Lib.hasPrefix, List.isPrefixOf] at h
 | cons c r =>
  unfold Lib.trimPrefix; rw [h]
  simp
def encT (x : (List UInt8 × List UInt8) × List UInt8) : Array Value := #[.agg #[.string ⟨x.1.1.toArray⟩, .string ⟨x.1.2.toArray⟩], .string ⟨x.2.toArray⟩]
section
attribute [local go_sem] Oper.semAt_some wide_fn wide_depth
set_option maxHeartbeats 1000000 in
set_option maxRecDepth 100000 in
theorem told_iter (B : Nat) (s : ByteArray) (hs : s.size ≤ 140737488351232) :
  IterB Tryd.prog 42 #[.pointer (some ⟨B, 0, none⟩)] encT (toldF s.size s.data.toList) B (fun W => Boxed W B 9 (.string s)) := by
 intro l J Jx W hW hJ hJx hY h0
 refine callsIn_of_wp Tryd.func42 rfl trivial ?_ rfl
 simp only [Tryd.ntmps42, List.size_toArray, List.length_cons, List.length_nil, Nat.reduceAdd, Nat.reduceSub, Array.replicate_succ, Array.replicate_zero, List.push_toArray, List.append_toArray, List.nil_append, List.cons_append]
 gi_wp2
 gi_loopw [] (fun wr => ∃ (i f : Nat) (r : ByteArray), i ≤ (toldF s.size s.data.toList).length ∧ (toldF s.size s.data.toList).drop i = toldF f r.data.toList ∧ r.size ≤ f ∧ r.size ≤ s.size ∧ Boxed wr B 9 (.string r) ∧ J i wr)
  (fun wr => strLen wr B)
 case atStart => exact ⟨0, s.size, s, Nat.zero_le _, rfl, Nat.le_refl _, Nat.le_refl _, hW, h0⟩
 case round =>
  obtain ⟨i, f, r, hi, hd, hf, hr, hbx, hj⟩ := hrel
  have hc := hbx.cell
  have hfz := hbx.frozen
  generalize hxs : toldF s.size s.data.toList = xs at hd hi hY
  by_cases hr0 : r.data.toList = []
  ·have hre : r.toList.isEmpty = true := by rw [Lib.toList_data, hr0]; rfl
   have hil : i = xs.length := by
    have h1 : xs.drop i = [] := by rw [hd, hr0]; cases f <;> simp [toldF]
    have := List.drop_eq_nil_iff.1 h1
    omega
   have HJ := Aside0.mk (hil ▸ hj)
   have HXS := Aside0.mk hxs
   clear hil hj hd hxs hi
   gi_wp2
   refine bodyPost_end (results_none rfl _ _ _) rfl ?_
   exact ⟨⟨_, rfl⟩, .inl (by rw [HXS.out]; exact HJ.out)⟩
  ·have hre : r.toList.isEmpty = false := by rw [Lib.toList_data]; cases h : r.data.toList with
    | nil => exact absurd h hr0
    | cons _ _ => rfl
   have hrz : 0 < r.size := by
    rw [← len_eq]; exact List.length_pos_iff.2 hr0
   obtain ⟨f', rfl⟩ : ∃ f', f = f' + 1 := ⟨f - 1, by omega⟩
   have hT := toldF_succ f' r.data.toList hr0
   have h1 : ∀ W, Calls Tryd.prog 43 #[.string r, .string ⟨#[32]⟩] W fun e w' => e = .returned (.tuple #[.string ⟨(Lib.trimPrefix r.data.toList [32]).toArray⟩, .bool (Lib.hasPrefix r.data.toList [32])]) ∧ w' = W := fun W => Tryd.strings_CutPrefix r ⟨#[32]⟩ W
   have hl0 : (Lib.trimPrefix r.data.toList [32]).length ≤ r.size := by have := trim_len r.data.toList [32]; rw [len_eq] at this; exact this
   have hl1 : Lib.hasPrefix r.data.toList [32] = true → (Lib.trimPrefix r.data.toList [32]).length < r.size := fun h => by have := trim_lt r.data.toList h; rw [len_eq] at this; exact this
   generalize Lib.trimPrefix r.data.toList [32] = inn at h1 hl0 hl1 hT
   generalize Lib.hasPrefix r.data.toList [32] = is at h1 hl1 hT
   have h2 : ∀ W, Calls Tryd.prog 44 #[.string ⟨inn.toArray⟩, .string ⟨#[32]⟩] W fun e w' => e = .returned (.tuple #[.string ⟨(Lib.cut inn [32]).1.toArray⟩, .string ⟨(Lib.cut inn [32]).2.1.toArray⟩, .bool (Lib.cut inn [32]).2.2]) ∧ ∃ n, w' = W.drewN n := fun W => cut1 ⟨inn.toArray⟩ 32 W (by show inn.toArray.size ≤ _; rw [List.size_toArray]; omega)
   have hl2 := cut_len1 inn 32
   have hl3 := cut_lt inn 32
   generalize Lib.cut inn [32] = c1 at h2 hl2 hl3 hT
   obtain ⟨wd, rest, more⟩ := c1
   simp only at h2 hl2 hl3 hT
   have h3 : ∀ W, Calls Tryd.prog 44 #[.string ⟨wd.toArray⟩, .string ⟨#[61]⟩] W fun e w' => e = .returned (.tuple #[.string ⟨(Lib.cut wd [61]).1.toArray⟩, .string ⟨(Lib.cut wd [61]).2.1.toArray⟩, .bool (Lib.cut wd [61]).2.2]) ∧ ∃ n, w' = W.drewN n := fun W => cut1 ⟨wd.toArray⟩ 61 W (by show wd.toArray.size ≤ _; rw [List.size_toArray]; omega)
   have hl4 := cut_len1 wd 61
   have hl5 := (cut_lt wd 61).1
   generalize Lib.cut wd [61] = c2 at h3 hl4 hl5 hT
   obtain ⟨n, v, has⟩ := c2
   simp only at h3 hl4 hl5 hT
   have h4 : ∀ W, Calls Tryd.prog 29 #[.string ⟨n.toArray⟩] W fun e w' => e = .returned (.string ⟨(n.map upper).toArray⟩) ∧ Below W.heap.size W w' := fun W => great_any ⟨n.toArray⟩ W (by show n.toArray.size ≤ _; rw [List.size_toArray]; omega)
   have hl6 : (n.map upper).length ≤ r.size := by rw [List.length_map]; omega
   generalize n.map upper = gn at h4 hl6 hT
   have h5 : ∀ W, Calls Tryd.prog 45 #[.agg #[.string ⟨gn.toArray⟩, .string ⟨v.toArray⟩]] W fun e w' => e = .returned (.bool (paramOk gn v)) ∧ Below W.heap.size W w' := fun W => cmd_param.calls _ _ _ W (by unfold cmd_param.f; rw [if_pos ⟨by show gn.toArray.size ≤ _; rw [List.size_toArray]; omega, by show v.toArray.size ≤ _; rw [List.size_toArray]; omega⟩])
   generalize paramOk gn v = pk at h5 hT
   have hvz : (⟨v.toArray⟩ : ByteArray).toList.isEmpty = v.isEmpty := by rw [Lib.toList_data]
   generalize hve : v.isEmpty = ve at hvz hT
   clear hl4 hl5
   have HD := Aside0.mk (hd.trans hT)
   have HXS := Aside0.mk hxs
   clear hd hT hxs hr0
   cases hbad : (!is || !pk || (has && ve)) with
   | true =>
    have hil : i = xs.length := by
     have h1 : xs.drop i = [] := by rw [HD.out, if_pos hbad]
     have := List.drop_eq_nil_iff.1 h1
     omega
    have HJ := Aside0.mk (hil ▸ hj)
    clear hil hj hi HD hl0 hl1 hl2 hl3 hl6 hY
    have hcs : is = false ∨ (is = true ∧ pk = false) ∨ (is = true ∧ pk = true ∧ has = true ∧ ve = true) := by
     cases is <;> cases pk <;> cases has <;> cases ve <;> simp_all
    clear hbad
    rcases hcs with rfl | ⟨rfl, rfl⟩ | ⟨rfl, rfl, rfl, rfl⟩
    ·gi_wp2_with (first | (gi_at_call 43; refine (CallsIn.mono (callsIn_wide.2 (h1 _)) ?_); rintro e w' ⟨rfl, hw⟩; obtain rfl := hw.symm; clear hw) | (gi_at_call 44; first | (refine (CallsIn.mono (callsIn_wide.2 (h2 _)) ?_); rintro e w' ⟨rfl, nd, rfl⟩; clear h2) | (refine (CallsIn.mono (callsIn_wide.2 (h3 _)) ?_); rintro e w' ⟨rfl, nd3, rfl⟩; clear h3)) | (gi_at_call 29; refine (CallsIn.mono (callsIn_wide.2 (h4 _)) ?_); rintro e w4 ⟨rfl, hb4⟩; have HB4 : Aside0 (Below wr.heap.size wr w4) := ⟨below_step (pw_below_drewN (Below.refl _ _) (nd + nd3)) hb4⟩; clear hb4 h4) | (gi_at_call 45; refine (CallsIn.mono (callsIn_wide.2 (h5 _)) ?_); rintro e w5 ⟨rfl, hb5⟩; have hk5 := blk_below (heap_alloc_new w4 (.cells #[.string ⟨gn.toArray⟩, .string ⟨v.toArray⟩] 49)) hb5; have hp0 : w5.cell? ⟨w4.heap.size, 0, none⟩ = some (.string ⟨gn.toArray⟩) := blk_cell hk5 0; have hp1 : w5.cell? ⟨w4.heap.size, 1, none⟩ = some (.string ⟨v.toArray⟩) := blk_cell hk5 1; have HB5 : Aside0 (Below wr.heap.size wr w5) := ⟨below_step (below_alloc HB4.out _) hb5⟩; clear hb5 h5 hk5))
     refine bodyPost_ret (results_none rfl _ _ _) rfl ?_
     exact ⟨⟨_, rfl⟩, .inl (by rw [HXS.out]; exact hJ _ _ _ HJ.out (grown_of_below (by first | exact HB5.out | exact below_alloc HB4.out _) _))⟩
    ·gi_wp2_with (first | (gi_at_call 43; refine (CallsIn.mono (callsIn_wide.2 (h1 _)) ?_); rintro e w' ⟨rfl, hw⟩; obtain rfl := hw.symm; clear hw) | (gi_at_call 44; first | (refine (CallsIn.mono (callsIn_wide.2 (h2 _)) ?_); rintro e w' ⟨rfl, nd, rfl⟩; clear h2) | (refine (CallsIn.mono (callsIn_wide.2 (h3 _)) ?_); rintro e w' ⟨rfl, nd3, rfl⟩; clear h3)) | (gi_at_call 29; refine (CallsIn.mono (callsIn_wide.2 (h4 _)) ?_); rintro e w4 ⟨rfl, hb4⟩; have HB4 : Aside0 (Below wr.heap.size wr w4) := ⟨below_step (pw_below_drewN (Below.refl _ _) (nd + nd3)) hb4⟩; clear hb4 h4) | (gi_at_call 45; refine (CallsIn.mono (callsIn_wide.2 (h5 _)) ?_); rintro e w5 ⟨rfl, hb5⟩; have hk5 := blk_below (heap_alloc_new w4 (.cells #[.string ⟨gn.toArray⟩, .string ⟨v.toArray⟩] 49)) hb5; have hp0 : w5.cell? ⟨w4.heap.size, 0, none⟩ = some (.string ⟨gn.toArray⟩) := blk_cell hk5 0; have hp1 : w5.cell? ⟨w4.heap.size, 1, none⟩ = some (.string ⟨v.toArray⟩) := blk_cell hk5 1; have HB5 : Aside0 (Below wr.heap.size wr w5) := ⟨below_step (below_alloc HB4.out _) hb5⟩; clear hb5 h5 hk5))
     refine bodyPost_ret (results_none rfl _ _ _) rfl ?_
     exact ⟨⟨_, rfl⟩, .inl (by rw [HXS.out]; exact hJ _ _ _ HJ.out (grown_of_below (by first | exact HB5.out | exact below_alloc HB4.out _) _))⟩
    ·gi_wp2_with (first | (gi_at_call 43; refine (CallsIn.mono (callsIn_wide.2 (h1 _)) ?_); rintro e w' ⟨rfl, hw⟩; obtain rfl := hw.symm; clear hw) | (gi_at_call 44; first | (refine (CallsIn.mono (callsIn_wide.2 (h2 _)) ?_); rintro e w' ⟨rfl, nd, rfl⟩; clear h2) | (refine (CallsIn.mono (callsIn_wide.2 (h3 _)) ?_); rintro e w' ⟨rfl, nd3, rfl⟩; clear h3)) | (gi_at_call 29; refine (CallsIn.mono (callsIn_wide.2 (h4 _)) ?_); rintro e w4 ⟨rfl, hb4⟩; have HB4 : Aside0 (Below wr.heap.size wr w4) := ⟨below_step (pw_below_drewN (Below.refl _ _) (nd + nd3)) hb4⟩; clear hb4 h4) | (gi_at_call 45; refine (CallsIn.mono (callsIn_wide.2 (h5 _)) ?_); rintro e w5 ⟨rfl, hb5⟩; have hk5 := blk_below (heap_alloc_new w4 (.cells #[.string ⟨gn.toArray⟩, .string ⟨v.toArray⟩] 49)) hb5; have hp0 : w5.cell? ⟨w4.heap.size, 0, none⟩ = some (.string ⟨gn.toArray⟩) := blk_cell hk5 0; have hp1 : w5.cell? ⟨w4.heap.size, 1, none⟩ = some (.string ⟨v.toArray⟩) := blk_cell hk5 1; have HB5 : Aside0 (Below wr.heap.size wr w5) := ⟨below_step (below_alloc HB4.out _) hb5⟩; clear hb5 h5 hk5))
     refine bodyPost_ret (results_none rfl _ _ _) rfl ?_
     exact ⟨⟨_, rfl⟩, .inl (by rw [HXS.out]; exact hJ _ _ _ HJ.out (grown_of_below (by first | exact HB5.out | exact below_alloc HB4.out _) _))⟩
   | false =>
    have hcs : is = true ∧ pk = true ∧ (has && ve) = false := by
     cases is <;> cases pk <;> simp_all
    obtain ⟨rfl, rfl, hhv⟩ := hcs
    have hD := HD.out
    rw [hbad] at hD
    simp only [Bool.false_eq_true, if_false] at hD
    clear hbad HD
    have hil : i < xs.length := by
     have h1 := congrArg List.length hD
     rw [List.length_drop, List.length_cons] at h1; omega
    have hxi : xs[i] = ((gn, v), rest) := by
     have h1 := congrArg (fun l => l[0]?) hD
     simp only [List.getElem?_drop, Nat.add_zero, List.getElem?_cons_zero] at h1
     rw [List.getElem?_eq_getElem hil] at h1
     exact Option.some.inj h1
    have HD2 : Aside0 (xs.drop (i + 1) = toldF f' (if more = true then 32 :: rest else rest)) := ⟨by rw [List.drop_add_one_eq_tail_drop, hD]; rfl⟩
    have hY' : ∀ W1, J i W1 → YieldAt Fence.wide 0 Tryd.prog l #[.agg #[.string ⟨gn.toArray⟩, .string ⟨v.toArray⟩], .string ⟨rest.toArray⟩] W1 fun e W' =>
      (e = .returned (.bool true) ∧ J (i + 1) W' ∧ W1.heap.size ≤ W'.heap.size ∧ W'.heap[B]? = W1.heap[B]?) ∨ (e = .returned (.bool false) ∧ Jx (i + 1) W') := fun W1 h => by
     have := hY i hil W1 h
     rw [hxi] at this
     exact this
    have HYY := Aside0.mk hY'
    have HJ := Aside0.mk hj
    have HI : Aside0 (i < xs.length) := ⟨hil⟩
    clear hY hY' hxi hD hil hi hj
    have hlr := hl1 rfl
    have hqs : ¬ 9223372036854775807 < 1 + rest.toArray.size := by rw [List.size_toArray]; omega
    clear hl0 hl1 hl2 hl6
    have hbx' := Aside0.mk hbx
    cases has with
    | false =>
     gi_wp2_with (first | (gi_at_call 43; refine (CallsIn.mono (callsIn_wide.2 (h1 _)) ?_); rintro e w' ⟨rfl, hw⟩; obtain rfl := hw.symm; clear hw) | (gi_at_call 44; first | (refine (CallsIn.mono (callsIn_wide.2 (h2 _)) ?_); rintro e w' ⟨rfl, nd, rfl⟩; clear h2) | (refine (CallsIn.mono (callsIn_wide.2 (h3 _)) ?_); rintro e w' ⟨rfl, nd3, rfl⟩; clear h3)) | (gi_at_call 29; refine (CallsIn.mono (callsIn_wide.2 (h4 _)) ?_); rintro e w4 ⟨rfl, hb4⟩; have HB4 : Aside0 (Below wr.heap.size wr w4) := ⟨below_step (pw_below_drewN (Below.refl _ _) (nd + nd3)) hb4⟩; clear hb4 h4) | (gi_at_call 45; refine (CallsIn.mono (callsIn_wide.2 (h5 _)) ?_); rintro e w5 ⟨rfl, hb5⟩; have hk5 := blk_below (heap_alloc_new w4 (.cells #[.string ⟨gn.toArray⟩, .string ⟨v.toArray⟩] 49)) hb5; have hp0 : w5.cell? ⟨w4.heap.size, 0, none⟩ = some (.string ⟨gn.toArray⟩) := blk_cell hk5 0; have hp1 : w5.cell? ⟨w4.heap.size, 1, none⟩ = some (.string ⟨v.toArray⟩) := blk_cell hk5 1; have HB5 : Aside0 (Below wr.heap.size wr w5) := ⟨below_step (below_alloc HB4.out _) hb5⟩; obtain ⟨fnY, tmpsY, assignY, bodyY, hy, hR⟩ := HYY.out w5 (hJ _ _ _ HJ.out (grown_of_below HB5.out _)); clear hb5 h5 hk5))
     refine hR.mono ?_
     rintro e W3 (⟨rfl, hJ3, hs3, hB3⟩ | ⟨rfl, hJ3⟩)
     ·have hbx3 : Boxed W3 B 9 (.string r) := hB3.trans ((HB5.out.block B hbx'.out.lt).trans hbx'.out)
      have hc3 := hbx3.cell
      have hf3 := hbx3.frozen
      clear hB3
      cases more with
      | true =>
       have hm := hl3.2 rfl
       have HR2 : Aside0 (((⟨#[32]⟩ : ByteArray) ++ ⟨rest.toArray⟩).data.toList = 32 :: rest ∧ ((⟨#[32]⟩ : ByteArray) ++ ⟨rest.toArray⟩).size = rest.length + 1) := ⟨by constructor; (simp [ByteArray.data_append]); (rw [ByteArray.size_append]; show 1 + rest.toArray.size = _; rw [List.size_toArray]; omega)⟩
       gi_wp2
       go_roundw
       case rel =>
        exact ⟨i + 1, f', _, HI.out, by rw [HD2.out, HR2.out.1]; rfl, by rw [HR2.out.2]; omega, by rw [HR2.out.2]; omega, (hbx3.set _).set _, hJ _ _ _ (hJ _ _ _ hJ3 (grownBy_setCell' _ _ _)) (grownBy_setCell' _ _ _)⟩
       case measure =>
        have h1 := ((hbx3.set (.string ⟨rest.toArray⟩)).set (.string ((⟨#[32]⟩ : ByteArray) ++ ⟨rest.toArray⟩))).cell
        simp only [strLen, h1, hc]
        rw [HR2.out.2]; omega
      | false =>
       have hm := hl3.1
       gi_wp2
       go_roundw
       case rel =>
        exact ⟨i + 1, f', ⟨rest.toArray⟩, HI.out, by rw [HD2.out]; rfl, by show rest.toArray.size ≤ _; rw [List.size_toArray]; omega, by show rest.toArray.size ≤ _; rw [List.size_toArray]; omega, hbx3.set _, hJ _ _ _ hJ3 (grownBy_setCell' _ _ _)⟩
       case measure =>
        have h1 := (hbx3.set (.string ⟨rest.toArray⟩)).cell
        simp only [strLen, h1, hc]
        show rest.toArray.size < _
        rw [List.size_toArray]; omega
     ·gi_wp2
      refine bodyPost_ret (results_none rfl _ _ _) rfl ?_
      exact ⟨⟨_, rfl⟩, .inr ⟨i + 1, by rw [HXS.out]; exact HI.out, hJ3⟩⟩
    | true =>
     have hve2 : ve = false := by simpa using hhv
     subst hve2
     gi_wp2_with (first | (gi_at_call 43; refine (CallsIn.mono (callsIn_wide.2 (h1 _)) ?_); rintro e w' ⟨rfl, hw⟩; obtain rfl := hw.symm; clear hw) | (gi_at_call 44; first | (refine (CallsIn.mono (callsIn_wide.2 (h2 _)) ?_); rintro e w' ⟨rfl, nd, rfl⟩; clear h2) | (refine (CallsIn.mono (callsIn_wide.2 (h3 _)) ?_); rintro e w' ⟨rfl, nd3, rfl⟩; clear h3)) | (gi_at_call 29; refine (CallsIn.mono (callsIn_wide.2 (h4 _)) ?_); rintro e w4 ⟨rfl, hb4⟩; have HB4 : Aside0 (Below wr.heap.size wr w4) := ⟨below_step (pw_below_drewN (Below.refl _ _) (nd + nd3)) hb4⟩; clear hb4 h4) | (gi_at_call 45; refine (CallsIn.mono (callsIn_wide.2 (h5 _)) ?_); rintro e w5 ⟨rfl, hb5⟩; have hk5 := blk_below (heap_alloc_new w4 (.cells #[.string ⟨gn.toArray⟩, .string ⟨v.toArray⟩] 49)) hb5; have hp0 : w5.cell? ⟨w4.heap.size, 0, none⟩ = some (.string ⟨gn.toArray⟩) := blk_cell hk5 0; have hp1 : w5.cell? ⟨w4.heap.size, 1, none⟩ = some (.string ⟨v.toArray⟩) := blk_cell hk5 1; have HB5 : Aside0 (Below wr.heap.size wr w5) := ⟨below_step (below_alloc HB4.out _) hb5⟩; obtain ⟨fnY, tmpsY, assignY, bodyY, hy, hR⟩ := HYY.out w5 (hJ _ _ _ HJ.out (grown_of_below HB5.out _)); clear hb5 h5 hk5))
     refine hR.mono ?_
     rintro e W3 (⟨rfl, hJ3, hs3, hB3⟩ | ⟨rfl, hJ3⟩)
     ·have hbx3 : Boxed W3 B 9 (.string r) := hB3.trans ((HB5.out.block B hbx'.out.lt).trans hbx'.out)
      have hc3 := hbx3.cell
      have hf3 := hbx3.frozen
      clear hB3
      cases more with
      | true =>
       have hm := hl3.2 rfl
       have HR2 : Aside0 (((⟨#[32]⟩ : ByteArray) ++ ⟨rest.toArray⟩).data.toList = 32 :: rest ∧ ((⟨#[32]⟩ : ByteArray) ++ ⟨rest.toArray⟩).size = rest.length + 1) := ⟨by constructor; (simp [ByteArray.data_append]); (rw [ByteArray.size_append]; show 1 + rest.toArray.size = _; rw [List.size_toArray]; omega)⟩
       gi_wp2
       go_roundw
       case rel =>
        exact ⟨i + 1, f', _, HI.out, by rw [HD2.out, HR2.out.1]; rfl, by rw [HR2.out.2]; omega, by rw [HR2.out.2]; omega, (hbx3.set _).set _, hJ _ _ _ (hJ _ _ _ hJ3 (grownBy_setCell' _ _ _)) (grownBy_setCell' _ _ _)⟩
       case measure =>
        have h1 := ((hbx3.set (.string ⟨rest.toArray⟩)).set (.string ((⟨#[32]⟩ : ByteArray) ++ ⟨rest.toArray⟩))).cell
        simp only [strLen, h1, hc]
        rw [HR2.out.2]; omega
      | false =>
       have hm := hl3.1
       gi_wp2
       go_roundw
       case rel =>
        exact ⟨i + 1, f', ⟨rest.toArray⟩, HI.out, by rw [HD2.out]; rfl, by show rest.toArray.size ≤ _; rw [List.size_toArray]; omega, by show rest.toArray.size ≤ _; rw [List.size_toArray]; omega, hbx3.set _, hJ _ _ _ hJ3 (grownBy_setCell' _ _ _)⟩
       case measure =>
        have h1 := (hbx3.set (.string ⟨rest.toArray⟩)).cell
        simp only [strLen, h1, hc]
        show rest.toArray.size < _
        rw [List.size_toArray]; omega
     ·gi_wp2
      refine bodyPost_ret (results_none rfl _ _ _) rfl ?_
      exact ⟨⟨_, rfl⟩, .inr ⟨i + 1, by rw [HXS.out]; exact HI.out, hJ3⟩⟩
end
theorem loop7 {F : Fence} {n : Nat} {P : Program} {c : Code} {Q : Exit → Act → World → Prop} (J : Nat → Act → World → Prop)
  (hstep : ∀ i a w (K : Act → World → Prop), i < 7 → J i a w → (∀ a' w', J (i + 1) a' w' → K a' w') → c.wpIn F n P (Exit.then K Q) a w)
  (hend : ∀ a w (K : Act → World → Prop), J 7 a w → c.wpIn F n P (Exit.then K Q) a w) {a : Act} {w : World} (h0 : J 0 a w) : (Code.loop c).wpIn F n P Q a w := by
 refine wpIn_loop_rounds 8 ?_
 have key : ∀ m i, i + m = 7 → ∀ a w, J i a w → Code.roundsIn F n P c Q (m + 1) a w := by
  intro m
  induction m with
  | zero =>
   intro i hi a w h; rw [roundsIn_succ]; have : i = 7 := by omega
   subst this; exact hend a w _ h
  | succ m ih => intro i hi a w h; rw [roundsIn_succ]; exact hstep i a w _ (by omega) h (fun a' w' h' => ih (i + 1) (by omega) a' w' h')
 exact key 7 0 rfl a w h0
def parMatch (s : ByteArray) (v : Int) : Bool := Lib.hasPrefix (s.data.toList.map upper) (wordB v).data.toList
theorem hasPrefix_head (l p : List UInt8) (c : UInt8) (h : Lib.hasPrefix l (c :: p) = true) : l.head? = some c := by
 cases l with
 | nil => simp [Lib.hasPrefix, List.isPrefixOf] at h
 | cons d r => simp [Lib.hasPrefix, List.isPrefixOf] at h; simp [h.1]
def headB (v : Int) : UInt8 := if v = 1 then 69 else if v = 2 then 83 else if v = 3 then 77 else if v = 4 then 82 else if v = 5 then 68 else 81
theorem parMatch_head (s : ByteArray) (v : Int) (hv : v = 1 ∨ v = 2 ∨ v = 3 ∨ v = 4 ∨ v = 5 ∨ v = 6) (h : parMatch s v = true) : (s.data.toList.map upper).head? = some (headB v) := by
 unfold parMatch at h
 rcases hv with rfl | rfl | rfl | rfl | rfl | rfl
 all_goals exact hasPrefix_head _ _ _ h
theorem parMatch_one (s : ByteArray) (v v' : Int) (hv : v = 1 ∨ v = 2 ∨ v = 3 ∨ v = 4 ∨ v = 5 ∨ v = 6) (hv' : v' = 1 ∨ v' = 2 ∨ v' = 3 ∨ v' = 4 ∨ v' = 5 ∨ v' = 6) (h : parMatch s v = true) (h' : parMatch s v' = true) : v = v' := by
 have h1 := (parMatch_head s v hv h).symm.trans (parMatch_head s v' hv' h')
 have h2 : headB v = headB v' := Option.some.inj h1
 rcases hv with rfl | rfl | rfl | rfl | rfl | rfl <;> rcases hv' with rfl | rfl | rfl | rfl | rfl | rfl <;> first | rfl | (exfalso; revert h2; decide)
abbrev PRes := Int × ByteArray × List S49 × Int
def errP : PRes := (0, ⟨#[]⟩, [], 4)
def toPar (x : (List UInt8 × List UInt8) × List UInt8) : S49 := ⟨⟨x.1.1.toArray⟩, ⟨x.1.2.toArray⟩⟩
def usedF (n : Nat) (ts : List ((List UInt8 × List UInt8) × List UInt8)) : Int := match ts.getLast? with
 | none => 0
 | some x => (n : Int) - x.2.length
def tryV (v : Int) (arg : ByteArray) : Option PRes :=
 if v = 3 ∨ v = 4 then
  (cmd_path.f (arg.size + 1) arg).bind fun q => if 510 < q.2.1.size then none else if q.2.2 = true then
   (if (usedF q.2.1.size (toldF q.2.1.size q.2.1.data.toList) != (q.2.1.size : Int) || Lib.hasSuffix q.2.1.data.toList [32]) = true then some errP
   else (cmd_May.f 1 v q.1 ((toldF q.2.1.size q.2.1.data.toList).map toPar)).bind fun m => some (if m = true then (v, q.1, (toldF q.2.1.size q.2.1.data.toList).map toPar, 0) else errP))
  else some errP
 else (cmd_May.f 1 v arg []).bind fun m => some (if m = true then (v, arg, [], 0) else errP)
def argOf (s : ByteArray) (v : Int) : ByteArray := s.extract (wordB v).size s.size
def cmd_Parse.f (a0 : ByteArray) : Option PRes :=
 if 510 < a0.size then (if a0.size ≤ 140737488351232 then some (0, ⟨#[]⟩, [], 40) else none)
 else match ([1, 2, 3, 4, 5, 6] : List Int).find? (fun v => parMatch a0 v) with
  | none => some errP
  | some v => tryV v (argOf a0 v)
set_option maxHeartbeats 400000 in
theorem told_calls (s : ByteArray) (w : World) :
  Calls Tryd.prog 31 #[.string s] w fun e w' => e = .returned (.func (.func 42) #[] #[.pointer (some ⟨w.heap.size, 0, none⟩)]) ∧ w' = w.alloc (.cells #[.string s] 9) := by
 go_enter Tryd.func31, Tryd.ntmps31
 go_wp2
 go_ret
 exact ⟨rfl, rfl⟩
def litP (s : ByteArray) (g i : Nat) (u : Nat → Value) : Array Value := #[.string s, u 1, .pointer (some ⟨g, 0, none⟩), .int .i64 0, u 4, u 5, u 6, u 7, u 8, u 9, u 10, u 11, u 12, u 13, u 14, u 15, u 16, .agg wordsA, .int .i64 (i : Int), u 19, u 20, u 21, u 22, u 23, u 24, u 25, u 26, u 27, u 28, u 29, u 30, u 31, u 32, u 33, u 34, u 35, u 36, u 37, u 38, u 39, u 40, u 41, u 42, u 43, u 44, u 45, u 46, u 47, u 48, u 49, u 50, u 51, u 52, u 53, u 54, u 55, u 56, u 57, u 58, u 59, u 60, u 61, u 62, u 63, u 64, u 65, u 66, u 67, u 68, u 69, u 70, u 71, u 72, u 73, u 74, u 75, u 76, u 77, u 78, u 79, u 80, u 81, u 82, u 83, u 84, u 85, u 86]
def FrameP (s : ByteArray) (g i : Nat) (ds : List Deferred) (a : Act) : Prop := ∃ u : Nat → Value, a = { tmps := litP s g i u, defers := ds }
theorem FrameP.mk' {s : ByteArray} {g i : Nat} (tmps : Array Value) (ds : List Deferred) (h : tmps = litP s g i (fun n => tmps.getD n undef)) : FrameP s g i ds { tmps := tmps, defers := ds } := ⟨_, by rw [← h]⟩
def markD (D : Nat) : Deferred := { target := .collected D, args := #[] }
def MarksP (w : World) (ds : List Deferred) (W : World) : Prop := ds = [] ∨ ∃ D, ds = [markD D] ∧ w.heap.size < D ∧ W.heap[D]? = some (.deferred (some []))
theorem leave_parse (w : World) (tmps : Array Value) (ds : List Deferred) (W : World) (hds : MarksP w ds W) (r1 : Int) (r2 : ByteArray) (u : Value) (r3 : List S49) (r4 : Int) (ok : Nat → Prop)
  (hg : W.heap[w.heap.size]? = some (.cells #[.int .u8 r1, .string r2, u] 27 (0, 0))) (hs2 : tmps.getD 2 undef = .pointer (some ⟨w.heap.size, 0, none⟩)) (hs3 : tmps.getD 3 undef = .int .i64 r4)
  (hR : Kd.R k49 49 W w.heap.size ok u r3) (hB : Below w.heap.size w W) :
  bodyPostM Fence.wide 0 Tryd.prog Tryd.f14 (fun e w' => ∃ v2_ : Value, e = .returned (.tuple #[.agg #[.int .u8 r1, .string r2, v2_], .int .i64 r4]) ∧ Kd.R k49 49 w' w.heap.size (fun _ => True) v2_ r3 ∧ Below w.heap.size w w') .ret { tmps := tmps, defers := ds } W := by
 rcases hds with rfl | ⟨D, rfl, hD, hk⟩
 ·refine ⟨_, results_ct rfl tmps W w.heap.size 27 #[.int .u8 r1, .string r2, u] (0, 0) _ hs2 hg Tryd.underlying27 rfl (by kernel_rfl), u, by rw [hs3], Kd.R_mono hR (fun _ _ => trivial), hB⟩
 ·have hg' : W.grownBy (W.putObj D (.deferred none)) (some D) := grownBy_putObj' W D _
  have hgk : (W.putObj D (.deferred none)).heap[w.heap.size]? = some (.cells #[.int .u8 r1, .string r2, u] 27 (0, 0)) := (World.putObj_heap_other (by omega)).trans hg
  refine ⟨by simp, .inl ⟨_, _, rfl, run_takeDeferred hk, ?_⟩⟩
  refine ⟨_, results_ct rfl tmps _ w.heap.size 27 #[.int .u8 r1, .string r2, u] (0, 0) _ hs2 hgk Tryd.underlying27 rfl (by kernel_rfl), u, by rw [hs3], ?_, hB.trans (belowK_b (w := w) (Nat.le_refl _) W D _ _ (by omega) hk rfl rfl)⟩
  exact Kd.R_mono (R_grown rfl hR hg' (fun r e => by cases e; exact .inr ⟨_, hk, rfl⟩)) (fun _ _ => trivial)
structure ParseI (w : World) (g6 g8 g10 B : Nat) (v : Int) (q1 q2 : ByteArray) (xs : List S49) (us : Int) (W : World) : Prop where
 R : ∃ u, Kd.R k49 49 W w.heap.size (fun k => k ≠ B) u xs ∧ W.heap[g6]? = some (.cells #[.int .u8 v, .string q1, u] 27 (0, 0))
 B8 : W.heap[g8]? = some (.cells #[.string q2] 9 (0, 0))
 B10 : W.heap[g10]? = some (.cells #[.int .i64 us] 3 (0, 0))
 G : W.heap[w.heap.size]? = some (.cells #[.int .u8 0, .string ⟨#[]⟩, .slice none 0 0] 27 (0, 0))
 Bel : Below w.heap.size w W
theorem cellblk_kept {W W' : World} {row : Option Nat} {g b B : Nat} {cs : Array Value} {t : TypeId} (h : W.heap[g]? = some (.cells cs t (0, 0))) (hg : W.grownBy W' row)
  (hr : ∀ r, row = some r → r = B ∨ (b ≤ r ∧ ∃ o : Obj, W.heap[r]? = some o ∧ o.isCells = false)) (hne : g ≠ B) : W'.heap[g]? = some (.cells cs t (0, 0)) :=
 (hg.block g (blk_lt h) (fun e => by
  rcases hr g e.symm with e' | ⟨_, o, ho, hc⟩
  ·exact hne e'
  ·rw [h] at ho; cases ho; simp [Obj.isCells] at hc)).trans h
theorem ParseI.grown {w : World} {g6 g8 g10 B b : Nat} {v : Int} {q1 q2 : ByteArray} {xs : List S49} {us : Int} {W W' : World} {row : Option Nat} (h : ParseI w g6 g8 g10 B v q1 q2 xs us W) (hg : W.grownBy W' row)
  (hr : ∀ r, row = some r → r = B ∨ (b ≤ r ∧ ∃ o : Obj, W.heap[r]? = some o ∧ o.isCells = false)) (h6 : g6 ≠ B) (h8 : g8 ≠ B) (h10 : g10 ≠ B) (hw : w.heap.size < B) (hwb : w.heap.size ≤ b) : ParseI w g6 g8 g10 B v q1 q2 xs us W' := by
 obtain ⟨u, hR, hk⟩ := h.R
 exact ⟨⟨u, R_grown rfl hR hg (fun r e => (hr r e).elim (fun e' => .inl (fun hne => hne e')) (fun o => .inr o.2)), cellblk_kept hk hg hr h6⟩, cellblk_kept h.B8 hg hr h8, cellblk_kept h.B10 hg hr h10, cellblk_kept h.G hg hr (by omega), below_ownB h.Bel h.Bel.size hg hr hwb (by omega)⟩
theorem ParseI.step {w : World} {g6 g8 g10 B b : Nat} {v : Int} {q1 q2 : ByteArray} {xs : List S49} {us : Int} {W W1 : World} (h : ParseI w g6 g8 g10 B v q1 q2 xs us W) {u v1 : Value} {p : S49} (us' : Int)
  (hR : Kd.R k49 49 W w.heap.size (fun k => k ≠ B) u xs) (hk : W.heap[g6]? = some (.cells #[.int .u8 v, .string q1, u] 27 (0, 0)))
  (HO : Kd.R k49 49 W1 w.heap.size (fun k => k ≠ B) v1 (xs ++ [p])) (hB1 : Below w.heap.size w W1) (hg : W.grownBy W1 u.ownBlock)
  (hBl : B < W.heap.size) (h610 : g6 ≠ g10) (h6 : g6 ≠ B) (h10 : g10 ≠ B) (h86 : g8 ≠ g6) (h810 : g8 ≠ g10) (hw6 : w.heap.size < g6) (hw10 : w.heap.size < g10) :
  KeepsFrom b W ((W1.setCell ⟨g6, 2, none⟩ v1).setCell ⟨g10, 0, none⟩ (.int .i64 us')) ∧ ((W1.setCell ⟨g6, 2, none⟩ v1).setCell ⟨g10, 0, none⟩ (.int .i64 us')).heap[B]? = W.heap[B]? ∧
   ParseI w g6 g8 g10 B v q1 q2 (xs ++ [p]) us' ((W1.setCell ⟨g6, 2, none⟩ v1).setCell ⟨g10, 0, none⟩ (.int .i64 us')) := by
 have n6 : some g6 ≠ u.ownBlock := fun e => ((Kd.R_types hR hk (by decide)).1 _ e.symm).2 rfl
 have n8 : some g8 ≠ u.ownBlock := fun e => ((Kd.R_types hR h.B8 (by decide)).1 _ e.symm).2 rfl
 have n10 : some g10 ≠ u.ownBlock := fun e => ((Kd.R_types hR h.B10 (by decide)).1 _ e.symm).2 rfl
 have nw : some w.heap.size ≠ u.ownBlock := fun e => ((Kd.R_types hR h.G (by decide)).1 _ e.symm).2 rfl
 have nB : some B ≠ u.ownBlock := fun e => hR.1 _ e.symm rfl
 have k6 := blk_grown hk hg n6
 have k8 := blk_grown h.B8 hg n8
 have k10 := blk_grown h.B10 hg n10
 have kw := blk_grown h.G hg nw
 have hko : KeepsOthers W W1 := KeepsOthers.of_grownBy hg (fun j o hj ho => by
  obtain ⟨inner, hown⟩ := Kd.R_own hR
  rcases hown.2 with ⟨hv, _⟩ | ⟨g', cap, cur, hv, _, hh, _⟩
  ·rw [hv] at hj; simp [Value.ownBlock] at hj
  ·rw [hv] at hj
   have : g' = j := by simpa [Value.ownBlock] using hj
   subst this
   rw [ho] at hh; cases hh; rfl)
 have k10' : (W1.setCell ⟨g6, 2, none⟩ v1).heap[g10]? = some (.cells #[.int .i64 us] 3 (0, 0)) := blk_far k10 (p := ⟨g6, 2, none⟩) (fun e => h610 e.symm) v1
 refine ⟨((hko.trans (KeepsOthers.setCell _ _ _)).trans (KeepsOthers.setCell _ _ _)).from b, ?_, ⟨v1, Kd.R_set (Kd.R_set HO k6 (by decide) 2 v1) k10' (by decide) 0 _, ?_⟩, ?_, blk_put k10' 0 _ rfl, ?_, ?_⟩
 ·exact (Below.heap_setCell _ ⟨g10, 0, none⟩ _ B (fun e => h10 e.symm)).trans ((Below.heap_setCell _ ⟨g6, 2, none⟩ _ B (fun e => h6 e.symm)).trans (hg.block B hBl nB))
 ·exact blk_far (blk_put k6 2 v1 rfl) (p := ⟨g10, 0, none⟩) h610 _
 ·exact blk_far (blk_far k8 (p := ⟨g6, 2, none⟩) h86 _) (p := ⟨g10, 0, none⟩) h810 _
 ·exact blk_far (blk_far kw (p := ⟨g6, 2, none⟩) (by show w.heap.size ≠ g6; omega) _) (p := ⟨g10, 0, none⟩) (by show w.heap.size ≠ g10; omega) _
 ·exact (hB1.setCell (p := ⟨g6, 2, none⟩) (by show w.heap.size ≤ g6; omega) _).setCell (p := ⟨g10, 0, none⟩) (by show w.heap.size ≤ g10; omega) _
theorem usedF_succ (n : Nat) (ts : List ((List UInt8 × List UInt8) × List UInt8)) (i : Nat) (h : i < ts.length) : usedF n (ts.take (i + 1)) = (n : Int) - ts[i].2.length := by
 unfold usedF; rw [List.take_succ_eq_append_getElem h, List.getLast?_concat]
theorem toldF_small (k : Nat) : ∀ (s : List UInt8), ∀ x ∈ toldF k s, x.2.length ≤ s.length ∧ x.1.1.length ≤ s.length ∧ x.1.2.length ≤ s.length := by
 induction k with
 | zero => intro s x hx; simp [toldF] at hx
 | succ k ih =>
  intro s x hx
  by_cases h : s = []
  ·simp [toldF, h] at hx
  ·rw [toldF_succ _ _ h] at hx
   have l0 := trim_len s [32]
   have l1 := cut_len1 (Lib.trimPrefix s [32]) 32
   have l2 := cut_lt (Lib.trimPrefix s [32]) 32
   have l3 := cut_len1 (Lib.cut (Lib.trimPrefix s [32]) [32]).1 61
   have l4 := (cut_lt (Lib.cut (Lib.trimPrefix s [32]) [32]).1 61).1
   split at hx
   ·simp at hx
   ·rename_i hb
    have hp : Lib.hasPrefix s [32] = true := by
     cases hq : Lib.hasPrefix s [32] with
     | true => rfl
     | false => exact absurd (by rw [hq]; rfl) hb
    have l5 := trim_lt s hp
    rcases List.mem_cons.1 hx with rfl | hx
    ·simp only [List.length_map]; omega
    ·have := ih _ x hx
     split at this
     ·rename_i hm
      have := l2.2 hm
      simp only [List.length_cons] at *
      omega
     ·omega
theorem toldF_len (k : Nat) : ∀ (s : List UInt8), (toldF k s).length ≤ k := by
 induction k with
 | zero => intro s; simp [toldF]
 | succ k ih =>
  intro s
  by_cases h : s = []
  ·simp [toldF, h]
  ·rw [toldF_succ _ _ h]
   split
   ·simp
   ·simp only [List.length_cons]; have := ih (if (Lib.cut (Lib.trimPrefix s [32]) [32]).2.2 = true then 32 :: (Lib.cut (Lib.trimPrefix s [32]) [32]).2.1 else (Lib.cut (Lib.trimPrefix s [32]) [32]).2.1); omega
def litQ (g6 g8 g10 p : Nat) (rest : ByteArray) (u : Nat → Value) : Array Value := #[u 0, u 1, u 2, u 3, u 4, u 5, .pointer (some ⟨g6, 0, none⟩), u 7, .pointer (some ⟨g8, 0, none⟩), u 9, .pointer (some ⟨g10, 0, none⟩), .pointer (some ⟨p, 0, none⟩), .string rest, u 13, u 14, u 15, u 16, u 17, u 18, u 19, u 20, u 21, u 22, u 23, u 24, u 25, u 26, u 27, u 28, u 29, u 30, u 31, u 32, u 33, u 34, u 35, u 36, u 37, u 38, u 39, u 40, u 41, u 42, u 43, u 44, u 45, u 46, u 47, u 48, u 49, u 50, u 51, u 52, u 53, u 54, u 55, u 56, u 57, u 58, u 59, u 60, u 61, u 62, u 63, u 64, u 65, u 66, u 67, u 68, u 69, u 70, u 71, u 72, u 73, u 74, u 75, u 76, u 77, u 78, u 79, u 80, u 81, u 82, u 83, u 84, u 85, u 86]
def GQ (g6 g8 g10 b : Nat) (x : (List UInt8 × List UInt8) × List UInt8) (a' : Act) (W : World) : Prop := ∃ (u : Nat → Value) (p : Nat), a' = { tmps := litQ g6 g8 g10 p ⟨x.2.toArray⟩ u, defers := [] } ∧ b ≤ p ∧ W.heap[p]? = some (.cells #[.string ⟨x.1.1.toArray⟩, .string ⟨x.1.2.toArray⟩] 49 (0, 0))
theorem GQ.mk' {g6 g8 g10 b : Nat} {x : (List UInt8 × List UInt8) × List UInt8} {tmps : Array Value} {W : World} (p : Nat) (h : tmps = litQ g6 g8 g10 p ⟨x.2.toArray⟩ (fun n => tmps.getD n undef)) (hb : b ≤ p) (hk : W.heap[p]? = some (.cells #[.string ⟨x.1.1.toArray⟩, .string ⟨x.1.2.toArray⟩] 49 (0, 0))) : GQ g6 g8 g10 b x { tmps := tmps, defers := [] } W := ⟨_, p, by rw [← h], hb, hk⟩
theorem gQ_own {g6 g8 g10 b B : Nat} (hbB : B < b) (x : (List UInt8 × List UInt8) × List UInt8) (a' : Act) : OwnB b B (fun (_ : Unit) W => GQ g6 g8 g10 b x a' W) := by
 rintro _ W W' row ⟨u, p, ha, hb, hk⟩ hg hr
 exact ⟨u, p, ha, hb, cellblk_kept hk hg hr (by omega)⟩
section
attribute [local go_sem] Oper.semAt_some wide_fn wide_depth
def ABP (s : ByteArray) (w : World) (res : PRes) (i : Nat) (ds : List Deferred) : Prop :=
 (ds = [] ∧ ∀ j : Nat, 1 ≤ j → j < i → parMatch s (j : Int) = false) ∨ (res = errP ∧ ∀ j : Nat, 1 ≤ j → i ≤ j → j < 7 → parMatch s (j : Int) = false)
theorem MarksP.setCell {w : World} {ds : List Deferred} {W : World} (h : MarksP w ds W) (i : Nat) (u : Value) : MarksP w ds (W.setCell ⟨w.heap.size, i, none⟩ u) := by
 rcases h with h | ⟨D, h1, h2, h3⟩
 ·exact .inl h
 ·exact .inr ⟨D, h1, h2, (Below.heap_setCell W ⟨w.heap.size, i, none⟩ u D (by show D ≠ w.heap.size; omega)).trans h3⟩
theorem MarksP.below {w : World} {ds : List Deferred} {W W' : World} (h : MarksP w ds W) (hb : Below W.heap.size W W') : MarksP w ds W' := by
 rcases h with h | ⟨D, h1, h2, h3⟩
 ·exact .inl h
 ·exact .inr ⟨D, h1, h2, (hb.block D (blk_lt h3)).trans h3⟩
theorem leave_err (w : World) (tmps : Array Value) (ds : List Deferred) (W : World) (hds : MarksP w ds W) (er : Int) (r1 : Int) (r2 : ByteArray) (r3 : List S49) (r4 : Int) (hE : (r1, r2, r3, r4) = (((0 : Int), (⟨#[]⟩ : ByteArray), ([] : List S49), er) : PRes))
  (hg : W.heap[w.heap.size]? = some (.cells #[.int .u8 0, .string ⟨#[]⟩, .slice none 0 0] 27 (0, 0))) (hs2 : tmps.getD 2 undef = .pointer (some ⟨w.heap.size, 0, none⟩)) (hs3 : tmps.getD 3 undef = .int .i64 er) (hB : Below w.heap.size w W) :
  bodyPostM Fence.wide 0 Tryd.prog Tryd.f14 (fun e w' => ∃ v2_ : Value, e = .returned (.tuple #[.agg #[.int .u8 r1, .string r2, v2_], .int .i64 r4]) ∧ Kd.R k49 49 w' w.heap.size (fun _ => True) v2_ r3 ∧ Below w.heap.size w w') .ret { tmps := tmps, defers := ds } (((W.setCell ⟨w.heap.size, 0, none⟩ (.int .u8 0)).setCell ⟨w.heap.size, 1, none⟩ (.string ⟨#[]⟩)).setCell ⟨w.heap.size, 2, none⟩ (.slice none 0 0)) := by
 cases hE
 refine leave_parse w tmps ds _ (((hds.setCell _ _).setCell _ _).setCell _ _) 0 ⟨#[]⟩ (.slice none 0 0) [] er (fun _ => True) ?_ hs2 hs3 (Kd.R_nil _ _ _ _ _) (by repeat (first | exact hB | refine below_set ?_ (Nat.le_refl _)))
 refine blk_put (cs := #[.int .u8 0, .string ⟨#[]⟩, .slice none 0 0]) ?_ 2 _ rfl; refine blk_put (cs := #[.int .u8 0, .string ⟨#[]⟩, .slice none 0 0]) ?_ 1 _ rfl; refine blk_put (cs := #[.int .u8 0, .string ⟨#[]⟩, .slice none 0 0]) ?_ 0 _ rfl; exact hg
theorem leave_ok (w : World) (tmps : Array Value) (ds : List Deferred) (W : World) (hds : MarksP w ds W) (r1 : Int) (r2 : ByteArray) (u : Value) (r3 : List S49) (r4 : Int) (ok : Nat → Prop)
  (hg : W.heap[w.heap.size]? = some (.cells #[.int .u8 0, .string ⟨#[]⟩, .slice none 0 0] 27 (0, 0))) (hs2 : tmps.getD 2 undef = .pointer (some ⟨w.heap.size, 0, none⟩)) (hs3 : tmps.getD 3 undef = .int .i64 r4) (hR : Kd.R k49 49 W w.heap.size ok u r3) (hB : Below w.heap.size w W) :
  bodyPostM Fence.wide 0 Tryd.prog Tryd.f14 (fun e w' => ∃ v2_ : Value, e = .returned (.tuple #[.agg #[.int .u8 r1, .string r2, v2_], .int .i64 r4]) ∧ Kd.R k49 49 w' w.heap.size (fun _ => True) v2_ r3 ∧ Below w.heap.size w w') .ret { tmps := tmps, defers := ds } (((W.setCell ⟨w.heap.size, 0, none⟩ (.int .u8 r1)).setCell ⟨w.heap.size, 1, none⟩ (.string r2)).setCell ⟨w.heap.size, 2, none⟩ u) := by
 refine leave_parse w tmps ds _ (((hds.setCell _ _).setCell _ _).setCell _ _) r1 r2 u r3 r4 (fun _ => True) ?_ hs2 hs3 (Kd.R_mono (Kd.R_far (p := ⟨w.heap.size, 2, none⟩) (Kd.R_far (p := ⟨w.heap.size, 1, none⟩) (Kd.R_far (p := ⟨w.heap.size, 0, none⟩) (Kd.R_types hR hg (by decide)) (fun _ hk => hk.2) (.int .u8 r1)) (fun _ hk => hk.2) (.string r2)) (fun _ hk => hk.2) u) (fun _ _ => trivial)) (by repeat (first | exact hB | refine below_set ?_ (Nat.le_refl _)))
 refine blk_put (cs := #[.int .u8 r1, .string r2, .slice none 0 0]) ?_ 2 _ rfl; refine blk_put (cs := #[.int .u8 r1, .string ⟨#[]⟩, .slice none 0 0]) ?_ 1 _ rfl; refine blk_put (cs := #[.int .u8 0, .string ⟨#[]⟩, .slice none 0 0]) ?_ 0 _ rfl; exact hg
structure PathF (w w3 w4 : World) (i : Int) (arg q1 q2 : ByteArray) : Prop where
 lt : w3.heap.size < w4.heap.size
 ne : ¬ w4.heap.size = w3.heap.size
 K4 : w4.heap[w3.heap.size]? = some (.cells #[.int .u8 i, .string arg, .slice none 0 0] 27 (0, 0))
 G4 : w4.heap[w.heap.size]? = some (.cells #[.int .u8 0, .string ⟨#[]⟩, .slice none 0 0] 27 (0, 0))
 B4 : Below w.heap.size w w4
 wlt : w.heap.size < w3.heap.size
theorem PathF.of {w w3 w4 : World} {i : Int} {arg : ByteArray} (q1 q2 : ByteArray) (hB3 : Below w.heap.size w w3) (hG3 : w3.heap[w.heap.size]? = some (.cells #[.int .u8 0, .string ⟨#[]⟩, .slice none 0 0] 27 (0, 0)))
  (hb : Below (w3.alloc (.cells #[.int .u8 i, .string arg, .slice none 0 0] 27)).heap.size (w3.alloc (.cells #[.int .u8 i, .string arg, .slice none 0 0] 27)) w4) : PathF w w3 w4 i arg q1 q2 := by
 have hal : Below w3.heap.size w3 w4 := below_step (below_alloc (Below.refl _ _) _) hb
 have hk4 := blk_below (heap_alloc_new w3 _) hb
 exact ⟨blk_lt hk4, by have := blk_lt hk4; omega, hk4, blk_below hG3 hal, below_step hB3 hal, blk_lt hG3⟩
section
variable {w w3 w4 : World} {i : Int} {arg q1 q2 : ByteArray} (h : PathF w w3 w4 i arg q1 q2)
include h
theorem PathF.K5 : (w4.alloc (.cells #[.string q2] 9)).heap[w3.heap.size]? = some (.cells #[.int .u8 i, .string arg, .slice none 0 0] 27 (0, 0)) := blk_alloc h.K4 _
theorem PathF.G5 : (w4.alloc (.cells #[.string q2] 9)).heap[w.heap.size]? = some (.cells #[.int .u8 0, .string ⟨#[]⟩, .slice none 0 0] 27 (0, 0)) := blk_alloc h.G4 _
theorem PathF.B5 : Below w.heap.size w (w4.alloc (.cells #[.string q2] 9)) := below_alloc h.B4 _
theorem PathF.k51 : (w4.alloc (.cells #[.string q2] 9)).cell? ⟨w3.heap.size, 1, none⟩ = some (.string arg) := blk_cell h.K5 1
theorem PathF.g50 : (w4.alloc (.cells #[.string q2] 9)).cell? ⟨w.heap.size, 0, none⟩ = some (.int .u8 0) := blk_cell h.G5 0
theorem PathF.g51 : (w4.alloc (.cells #[.string q2] 9)).cell? ⟨w.heap.size, 1, none⟩ = some (.string ⟨#[]⟩) := blk_cell h.G5 1
theorem PathF.g52 : (w4.alloc (.cells #[.string q2] 9)).cell? ⟨w.heap.size, 2, none⟩ = some (.slice none 0 0) := blk_cell h.G5 2
theorem PathF.l58 : (((w4.alloc (.cells #[.string q2] 9)).setCell ⟨w3.heap.size, 1, none⟩ (.string q1)).alloc (.cells #[.int .i64 0] 3)).cell? ⟨w4.heap.size, 0, none⟩ = some (.string q2) :=
 blk_cell (blk_alloc (blk_far (heap_alloc_new w4 (.cells #[.string q2] 9)) (p := ⟨w3.heap.size, 1, none⟩) h.ne (.string q1)) (.cells #[.int .i64 0] 3)) 0
end
set_option maxHeartbeats 40000000 in
set_option maxRecDepth 100000 in
theorem parse_in (s : ByteArray) (w : World) (hs : s.size ≤ 510) (r1 : Int) (r2 : ByteArray) (r3 : List S49) (r4 : Int) (hres : cmd_Parse.f s = some (r1, r2, r3, r4)) :
  CallsIn Fence.wide 0 Tryd.prog 14 #[.string s] w fun e w' => ∃ v2_ : Value, e = .returned (.tuple #[.agg #[.int .u8 r1, .string r2, v2_], .int .i64 r4]) ∧ Kd.R k49 49 w' w.heap.size (fun _ => True) v2_ r3 ∧ Below w.heap.size w w' := by
 have hne : ∀ i : Nat, 1 ≤ i → i < 7 → parMatch s (i : Int) = true → tryV (i : Int) (argOf s (i : Int)) = some (r1, r2, r3, r4) := by
  intro i h1 h7 hm
  unfold cmd_Parse.f at hres
  rw [if_neg (by omega)] at hres
  have hi : (i : Int) = 1 ∨ (i : Int) = 2 ∨ (i : Int) = 3 ∨ (i : Int) = 4 ∨ (i : Int) = 5 ∨ (i : Int) = 6 := by omega
  cases hf : ([1, 2, 3, 4, 5, 6] : List Int).find? (fun v => parMatch s v) with
  | none =>
   have := List.find?_eq_none.1 hf (i : Int) (by simp; omega)
   exact absurd hm this
  | some v =>
   rw [hf] at hres
   have hv := List.mem_of_find?_eq_some hf
   have hpv := List.find?_some hf
   have e : v = (i : Int) := parMatch_one s v (i : Int) (by simpa using hv) hi hpv hm
   rw [← e]; exact hres
 have hnone : (∀ j : Nat, 1 ≤ j → j < 7 → parMatch s (j : Int) = false) → (r1, r2, r3, r4) = errP := by
  intro h
  unfold cmd_Parse.f at hres
  rw [if_neg (by omega)] at hres
  have hf : ([1, 2, 3, 4, 5, 6] : List Int).find? (fun v => parMatch s v) = none := by
   rw [List.find?_eq_none]
   intro v hv
   have hv' : v = 1 ∨ v = 2 ∨ v = 3 ∨ v = 4 ∨ v = 5 ∨ v = 6 := by simpa using hv
   have := h v.toNat (by omega) (by omega)
   rw [show ((v.toNat : Nat) : Int) = v by omega] at this
   simp [this]
  rw [hf] at hres
  exact (Option.some.inj hres).symm
 have HNE := Aside0.mk hne
 have HNONE := Aside0.mk hnone
 clear hne hnone hres
 have h510 : decide (510 < (s.size : Int)) = false := decide_eq_false (by omega)
 refine callsIn_of_wp_marks Tryd.func14 rfl trivial ?_ rfl
 simp only [Tryd.ntmps14, List.size_toArray, List.length_cons, List.length_nil, Nat.reduceAdd, Nat.reduceSub, Array.replicate_succ, Array.replicate_zero, List.push_toArray, List.append_toArray, List.nil_append, List.cons_append]
 gi_wp2_with (gi_at_call 26; refine (CallsIn.mono (callsIn_wide.2 (words_calls _)) ?_); rintro e w2 ⟨rfl, hb⟩; have HK2 := Aside0.mk (blk_below (heap_alloc_new w (.cells #[.int .u8 0, .string ⟨#[]⟩, .slice none 0 0] 27)) hb); have HB2 := Aside0.mk (below_step (below_alloc (Below.refl w.heap.size w) _) hb); clear hb)
 refine loop7 (fun i a W => ∃ ds, FrameP s w.heap.size i ds a ∧ Below w.heap.size w W ∧ W.heap[w.heap.size]? = some (.cells #[.int .u8 0, .string ⟨#[]⟩, .slice none 0 0] 27 (0, 0)) ∧ MarksP w ds W ∧ ABP s w (r1, r2, r3, r4) i ds) ?hstep ?hend ?h0
 case h0 =>
  exact ⟨[], FrameP.mk' _ _ rfl, HB2.out, HK2.out, .inl rfl, .inl ⟨rfl, fun j h1 h2 => absurd h2 (Nat.not_lt_zero _)⟩⟩
 case hend =>
  intro a W K hJ
  obtain ⟨ds, hF, hB, hG, hM, hAB⟩ := hJ
  have HE : Aside0 ((r1, r2, r3, r4) = errP) := ⟨by
   rcases hAB with ⟨_, h⟩ | ⟨h, _⟩
   ·exact HNONE.out (fun j h1 h2 => h j h1 h2)
   ·exact h⟩
  have HB := Aside0.mk hB
  have HG := Aside0.mk hG
  have HM := Aside0.mk hM
  clear hB hG hM hAB HNE HNONE HB2 HK2
  obtain ⟨u, rfl⟩ := hF
  unfold litP
  have hg0 := blk_frozen HG.out 0
  have hg1 := blk_frozen HG.out 1
  have hg2 := blk_frozen HG.out 2
  have hc0 : W.cell? ⟨w.heap.size, 0, none⟩ = some (.int .u8 0) := blk_cell HG.out 0
  have hc1 : W.cell? ⟨w.heap.size, 1, none⟩ = some (.string ⟨#[]⟩) := blk_cell HG.out 1
  have hc2 : W.cell? ⟨w.heap.size, 2, none⟩ = some (.slice none 0 0) := blk_cell HG.out 2
  gi_wp2
  exact leave_err w _ ds W HM.out 4 r1 r2 r3 r4 HE.out HG.out rfl rfl HB.out
 case hstep =>
  intro i a W K hi hJ hK
  obtain ⟨ds, hF, hB, hG, hM, hAB⟩ := hJ
  have HK := Aside0.mk hK
  have HB := Aside0.mk hB
  have HG := Aside0.mk hG
  have HM := Aside0.mk hM
  have HAB := Aside0.mk hAB
  clear hK hB hG hM hAB HB2 HK2
  have hgr : ∀ W, Calls Tryd.prog 29 #[.string s] W fun e w' => e = .returned (.string ⟨(s.data.toList.map upper).toArray⟩) ∧ Below W.heap.size W w' := fun W => great_any s W (by omega)
  have hix : (i : Int) < 7 := by omega
  by_cases hm : i = 0 ∨ parMatch s (i : Int) = false
  ·have hnext : ABP s w (r1, r2, r3, r4) (i + 1) ds := by
    rcases HAB.out with ⟨h1, h2⟩ | ⟨h1, h2⟩
    ·refine .inl ⟨h1, fun j hj1 hj2 => ?_⟩
     by_cases e : j = i
     ·subst e; rcases hm with h | h
      ·omega
      ·exact h
     ·exact h2 j hj1 (by omega)
    ·exact .inr ⟨h1, fun j hj1 hj2 hj3 => h2 j hj1 (by omega) hj3⟩
   have HN := Aside0.mk hnext
   clear hnext HAB HNE HNONE
   obtain ⟨u, rfl⟩ := hF
   unfold litP
   by_cases hi0 : i = 0
   ·subst hi0
    have hrw : ∀ W, (Instr.index 61 (.agg wordsA) (.int .i64 0)).run Tryd.prog W = .ok (.string ⟨#[]⟩) W := fun W => run_words .i64 0 (by decide) W
    clear hm
    gi_wp2
    exact HK.out _ _ ⟨ds, FrameP.mk' _ _ rfl, HB.out, HG.out, HM.out, HN.out⟩
   ·have hv : (i : Int) = 1 ∨ (i : Int) = 2 ∨ (i : Int) = 3 ∨ (i : Int) = 4 ∨ (i : Int) = 5 ∨ (i : Int) = 6 := by omega
    have hrw : ∀ W, (Instr.index 61 (.agg wordsA) (.int .i64 (i : Int))).run Tryd.prog W = .ok (.string (wordB (i : Int))) W := fun W => run_wordB .i64 _ hv W
    have hpm : parMatch s (i : Int) = false := hm.resolve_left hi0
    have hpf : ∀ W, Calls Tryd.prog 28 #[.string ⟨(s.data.toList.map upper).toArray⟩, .string (wordB (i : Int))] W fun e w' => e = .returned (.bool false) ∧ w' = W := fun W => by
     have := Tryd.strings_HasPrefix ⟨(s.data.toList.map upper).toArray⟩ (wordB (i : Int)) W
     rw [show Lib.hasPrefix (⟨(s.data.toList.map upper).toArray⟩ : ByteArray).data.toList (wordB (i : Int)).data.toList = false from hpm] at this
     exact this
    have hwe : (wordB (i : Int)).toList.isEmpty = false := by
     rw [Lib.toList_data]
     rcases hv with h | h | h | h | h | h <;> rw [h] <;> rfl
    generalize wordB (i : Int) = wb at hrw hpf hwe
    clear hm hpm hv
    gi_wp2_with (first | (gi_at_call 29; refine (CallsIn.mono (callsIn_wide.2 (hgr _)) ?_); rintro e w3 ⟨rfl, hb⟩; have HB3 := Aside0.mk (below_step HB.out hb); have HG3 := Aside0.mk (blk_below HG.out hb); have HM3 := Aside0.mk (HM.out.below hb); clear hb) | (gi_at_call 28; refine (CallsIn.mono (callsIn_wide.2 (hpf _)) ?_); rintro e w' ⟨rfl, hw⟩; obtain rfl := hw.symm; clear hw))
    exact HK.out _ _ ⟨ds, FrameP.mk' _ _ rfl, HB3.out, HG3.out, HM3.out, HN.out⟩
  ·have hi1 : 1 ≤ i := by omega
   have hv : (i : Int) = 1 ∨ (i : Int) = 2 ∨ (i : Int) = 3 ∨ (i : Int) = 4 ∨ (i : Int) = 5 ∨ (i : Int) = 6 := by omega
   have hpm : parMatch s (i : Int) = true := by
    cases h : parMatch s (i : Int) with
    | true => rfl
    | false => exact absurd (.inr h) hm
   have hds : ds = [] := by
    rcases HAB.out with ⟨h1, _⟩ | ⟨_, h2⟩
    ·exact h1
    ·have := h2 i hi1 (Nat.le_refl _) hi; rw [hpm] at this; cases this
   subst hds
   have htry := HNE.out i hi1 hi hpm
   have hafter : ∀ ds, (r1, r2, r3, r4) = errP → ABP s w (r1, r2, r3, r4) (i + 1) ds := fun ds he => .inr ⟨he, fun j hj1 hj2 hj3 => by
    cases h : parMatch s (j : Int) with
    | false => rfl
    | true =>
     have := parMatch_one s (i : Int) (j : Int) hv (by omega) hpm h
     omega⟩
   have HA := Aside0.mk hafter
   have HTRY := Aside0.mk htry
   have hle : (wordB (i : Int)).size ≤ s.size := by
    have h1 : (wordB (i : Int)).data.toList.length ≤ (s.data.toList.map upper).length := by
     have h2 := Lib.hasPrefix_of_take (s.data.toList.map upper) (wordB (i : Int)).data.toList
     rw [show Lib.hasPrefix (s.data.toList.map upper) (wordB (i : Int)).data.toList = true from hpm] at h2
     simp only [Bool.and_eq_true, decide_eq_true_eq] at h2
     exact h2.1
    rw [List.length_map, len_eq, len_eq] at h1; exact h1
   clear hafter htry HAB HNE HNONE
   have hrw : ∀ W, (Instr.index 61 (.agg wordsA) (.int .i64 (i : Int))).run Tryd.prog W = .ok (.string (wordB (i : Int))) W := fun W => run_wordB .i64 _ hv W
   have hpf : ∀ W, Calls Tryd.prog 28 #[.string ⟨(s.data.toList.map upper).toArray⟩, .string (wordB (i : Int))] W fun e w' => e = .returned (.bool true) ∧ w' = W := fun W => by
    have := Tryd.strings_HasPrefix ⟨(s.data.toList.map upper).toArray⟩ (wordB (i : Int)) W
    rw [show Lib.hasPrefix (⟨(s.data.toList.map upper).toArray⟩ : ByteArray).data.toList (wordB (i : Int)).data.toList = true from hpm] at this
    exact this
   have hwe : (wordB (i : Int)).toList.isEmpty = false := by
    rw [Lib.toList_data]
    rcases hv with h | h | h | h | h | h <;> rw [h] <;> rfl
   obtain ⟨arg, harg⟩ : ∃ arg, arg = argOf s (i : Int) := ⟨_, rfl⟩
   have harg2 : s.extract (wordB (i : Int)).size s.size = arg := harg.symm
   rw [← harg] at HTRY
   clear harg
   generalize wordB (i : Int) = wb at hrw hpf hwe hle harg2
   have hlez : (wb.size : Int) ≤ (s.size : Int) := by omega
   clear hm hpm
   obtain ⟨u, rfl⟩ := hF
   unfold litP
   have hm8 : (i : Int) % 256 = (i : Int) := by omega
   by_cases hp : (i : Int) = 3 ∨ (i : Int) = 4
   ·have ht := HTRY.out
    unfold tryV at ht
    rw [if_pos hp] at ht
    obtain ⟨⟨q1, q2, is⟩, hpath, ht⟩ := Option.bind_eq_some_iff.1 ht
    simp only at ht
    have hq2 : q2.size ≤ 510 := by
     by_cases h : 510 < q2.size
     ·rw [if_pos h] at ht; cases ht
     ·omega
    rw [if_neg (by omega)] at ht
    have hpc : ∀ W, Calls Tryd.prog 30 #[.string arg] W fun e w' => e = .returned (.tuple #[.string q1, .string q2, .bool is]) ∧ Below W.heap.size W w' := fun W => cmd_path.calls _ arg q1 q2 is W hpath
    clear hpath HTRY
    cases is with
    | false =>
     have HE : Aside0 ((r1, r2, r3, r4) = errP) := ⟨by rw [if_neg (by simp)] at ht; exact (Option.some.inj ht).symm⟩
     clear ht
     by_cases hp3 : (i : Int) = 3
     ·have h3b : ((i : Int) == 3) = true := by rw [hp3]; rfl
      clear hp3 hp hv
      gi_wp2_with (first | (gi_at_call 29; refine (CallsIn.mono (callsIn_wide.2 (hgr _)) ?_); rintro e w3 ⟨rfl, hb⟩; have HB3 := Aside0.mk (below_step HB.out hb); have HG3 := Aside0.mk (blk_below HG.out hb); have HM3 := Aside0.mk (HM.out.below hb); clear hb) | (gi_at_call 28; refine (CallsIn.mono (callsIn_wide.2 (hpf _)) ?_); rintro e w' ⟨rfl, hw⟩; obtain rfl := hw.symm; clear hw) | (gi_at_call 30; refine (CallsIn.mono (callsIn_wide.2 (hpc _)) ?_); rintro e w4 ⟨rfl, hb⟩; have hpf4 := PathF.of q1 q2 HB3.out HG3.out hb; have HP := Aside0.mk hpf4; have k51 := hpf4.k51; have q51 := blk_frozen hpf4.K5 1; have g50 := hpf4.g50; have g51 := hpf4.g51; have g52 := hpf4.g52; have f50 := blk_frozen hpf4.G5 0; have f51 := blk_frozen hpf4.G5 1; have f52 := blk_frozen hpf4.G5 2; have l58 := hpf4.l58; clear hb hpf4))
      exact leave_err w _ [] _ (.inl rfl) 4 r1 r2 r3 r4 HE.out HP.out.G5 rfl rfl HP.out.B5
     ·have h3b : ((i : Int) == 3) = false := beq_eq_false_iff_ne.2 hp3
      have h4b : ((i : Int) == 4) = true := by rw [beq_iff_eq]; omega
      clear hp3 hp hv
      gi_wp2_with (first | (gi_at_call 29; refine (CallsIn.mono (callsIn_wide.2 (hgr _)) ?_); rintro e w3 ⟨rfl, hb⟩; have HB3 := Aside0.mk (below_step HB.out hb); have HG3 := Aside0.mk (blk_below HG.out hb); have HM3 := Aside0.mk (HM.out.below hb); clear hb) | (gi_at_call 28; refine (CallsIn.mono (callsIn_wide.2 (hpf _)) ?_); rintro e w' ⟨rfl, hw⟩; obtain rfl := hw.symm; clear hw) | (gi_at_call 30; refine (CallsIn.mono (callsIn_wide.2 (hpc _)) ?_); rintro e w4 ⟨rfl, hb⟩; have hpf4 := PathF.of q1 q2 HB3.out HG3.out hb; have HP := Aside0.mk hpf4; have k51 := hpf4.k51; have q51 := blk_frozen hpf4.K5 1; have g50 := hpf4.g50; have g51 := hpf4.g51; have g52 := hpf4.g52; have f50 := blk_frozen hpf4.G5 0; have f51 := blk_frozen hpf4.G5 1; have f52 := blk_frozen hpf4.G5 2; have l58 := hpf4.l58; clear hb hpf4))
      exact leave_err w _ [] _ (.inl rfl) 4 r1 r2 r3 r4 HE.out HP.out.G5 rfl rfl HP.out.B5
    | true =>
     rw [if_pos rfl] at ht
     have h34 : ((i : Int) == 3) = true ∨ (((i : Int) == 3) = false ∧ ((i : Int) == 4) = true) := by
      by_cases hp3 : (i : Int) = 3
      ·exact .inl (by rw [hp3]; rfl)
      ·exact .inr ⟨beq_eq_false_iff_ne.2 hp3, by rw [beq_iff_eq]; omega⟩
     have htold : ∀ W, Calls Tryd.prog 31 #[.string q2] W fun e w' => e = .returned (.func (.func 42) #[] #[.pointer (some ⟨W.heap.size, 0, none⟩)]) ∧ w' = W.alloc (.cells #[.string q2] 9) := fun W => told_calls q2 W
     have HTT := Aside0.mk ht
     clear ht hp hv
     rcases h34 with h3b | ⟨h3b, h4b⟩
     ·gi_wp2_with (first | (gi_at_call 29; refine (CallsIn.mono (callsIn_wide.2 (hgr _)) ?_); rintro e w3 ⟨rfl, hb⟩; have HB3 := Aside0.mk (below_step HB.out hb); have HG3 := Aside0.mk (blk_below HG.out hb); have HM3 := Aside0.mk (HM.out.below hb); clear hb) | (gi_at_call 28; refine (CallsIn.mono (callsIn_wide.2 (hpf _)) ?_); rintro e w' ⟨rfl, hw⟩; obtain rfl := hw.symm; clear hw) | (gi_at_call 30; refine (CallsIn.mono (callsIn_wide.2 (hpc _)) ?_); rintro e w4 ⟨rfl, hb⟩; have hpf4 := PathF.of q1 q2 HB3.out HG3.out hb; have HP := Aside0.mk hpf4; have k51 := hpf4.k51; have q51 := blk_frozen hpf4.K5 1; have g50 := hpf4.g50; have g51 := hpf4.g51; have g52 := hpf4.g52; have f50 := blk_frozen hpf4.G5 0; have f51 := blk_frozen hpf4.G5 1; have f52 := blk_frozen hpf4.G5 2; have l58 := hpf4.l58; clear hb hpf4) | (gi_at_call 31; refine (CallsIn.mono (callsIn_wide.2 (htold _)) ?_); rintro e w' ⟨rfl, hw⟩; obtain rfl := hw.symm; clear hw))
      have hp4 := HP.out
      have hw3 : w.heap.size < w3.heap.size := hp4.wlt
      have hw34 : w3.heap.size < w4.heap.size := hp4.lt
      obtain ⟨ts, hts⟩ : ∃ ts, toldF q2.size q2.data.toList = ts := ⟨_, rfl⟩
      have hsm : ∀ x ∈ ts, x.2.length ≤ q2.size := fun x hx => by have := (toldF_small q2.size q2.data.toList x (hts ▸ hx)).1; rwa [len_eq] at this
      have htl : ts.length ≤ 1000 := by have := toldF_len q2.size q2.data.toList; rw [hts] at this; omega
      have hit := told_iter (w4.heap.size + 1 + 1) q2 (by omega)
      rw [hts] at hit HTT
      have hI0 : ParseI w w3.heap.size w4.heap.size (w4.heap.size + 1) (w4.heap.size + 1 + 1) (i : Int) q1 q2 (ts.take 0 |>.map toPar) (usedF q2.size (ts.take 0)) ((((w4.alloc (.cells #[.string q2] 9)).setCell ⟨w3.heap.size, 1, none⟩ (.string q1)).alloc (.cells #[.int .i64 0] 3)).alloc (.cells #[.string q2] 9)) := by
       refine ⟨⟨.slice none 0 0, Kd.R_nil _ _ _ _ _, ?_⟩, ?_, ?_, ?_, ?_⟩
       ·exact blk_alloc (blk_alloc (blk_put hp4.K5 1 (.string q1) rfl) _) _
       ·exact blk_alloc (blk_alloc (blk_far (heap_alloc_new w4 (.cells #[.string q2] 9)) (p := ⟨w3.heap.size, 1, none⟩) hp4.ne _) _) _
       ·refine blk_alloc ?_ _
        have := heap_alloc_new ((w4.alloc (.cells #[.string q2] 9)).setCell ⟨w3.heap.size, 1, none⟩ (.string q1)) (.cells #[.int .i64 0] 3)
        rw [World.size_setCell, World.size_alloc] at this
        exact this
       ·exact blk_alloc (blk_alloc (blk_far hp4.G5 (p := ⟨w3.heap.size, 1, none⟩) (by show w.heap.size ≠ w3.heap.size; omega) _) _) _
       ·exact below_alloc (below_alloc (hp4.B5.setCell (p := ⟨w3.heap.size, 1, none⟩) (by show w.heap.size ≤ w3.heap.size; omega) _) _) _
      have hsz : ((((w4.alloc (.cells #[.string q2] 9)).setCell ⟨w3.heap.size, 1, none⟩ (.string q1)).alloc (.cells #[.int .i64 0] 3)).alloc (.cells #[.string q2] 9)).heap.size = w4.heap.size + 1 + 1 + 1 := by simp
      have hbox : ((((w4.alloc (.cells #[.string q2] 9)).setCell ⟨w3.heap.size, 1, none⟩ (.string q1)).alloc (.cells #[.int .i64 0] 3)).alloc (.cells #[.string q2] 9)).heap[w4.heap.size + 1 + 1]? = some (.cells #[.string q2] 9 (0, 0)) := by
       have := heap_alloc_new (((w4.alloc (.cells #[.string q2] 9)).setCell ⟨w3.heap.size, 1, none⟩ (.string q1)).alloc (.cells #[.int .i64 0] 3)) (.cells #[.string q2] 9)
       rw [World.size_alloc, World.size_setCell, World.size_alloc] at this
       exact this
      clear k51 q51 g50 g51 g52 f50 f51 f52 l58
      generalize ((((w4.alloc (.cells #[.string q2] 9)).setCell ⟨w3.heap.size, 1, none⟩ (.string q1)).alloc (.cells #[.int .i64 0] 3)).alloc (.cells #[.string q2] 9)) = W0 at hI0 hsz hbox ⊢
      have HSZ := Aside0.mk hsz
      refine wpIn_rangeB2 (gf := 42) (lb := #[.pointer (some ⟨w4.heap.size + 1 + 1, 0, none⟩)]) rfl (enters_of Tryd.func42 (by kernel_rfl) rfl) hit (by omega)
       (fun W hb => (hb.block _ (by omega)).trans hbox) (fun _ => rfl)
       (fun j W => ParseI w w3.heap.size w4.heap.size (w4.heap.size + 1) (w4.heap.size + 1 + 1) (i : Int) q1 q2 ((ts.take j).map toPar) (usedF q2.size (ts.take j)) W)
       (fun c j W => False)
       (fun j A A' row hs hg hr => hs.grown hg hr (by omega) (by omega) (by omega) (by omega) (by omega))
       (fun c j A A' row hs hg hr => hs)
       hI0
       (fun x a' W => GQ w3.heap.size w4.heap.size (w4.heap.size + 1) W0.heap.size x a' W) (fun x a' => gQ_own (by omega) x a') ?assign ?body ?done ?stop
      case assign =>
       intro l x W K hbW hK
       clear HTT HA HP hit hI0 hbox HSZ
       simp only [encT]
       gi_wp2
       exact hK _ _ (below_alloc (Below.refl _ _) _) (GQ.mk' W.heap.size rfl hbW (heap_alloc_new W _))
      case stop => exact fun _ _ _ _ _ _ h => h.elim
      case body =>
       rintro l j hj a' W hbW hI ⟨u, p, rfl, hp, hkp⟩
       obtain ⟨us, hR, hk6⟩ := hI.R
       obtain ⟨Au, cu, rfl⟩ := Kd.R_slice hR
       have hI' := Aside0.mk hI
       have hR' := Aside0.mk hR
       have hk6' := Aside0.mk hk6
       have hp0 : W.cell? ⟨p, 0, none⟩ = some (.string ⟨ts[j].1.1.toArray⟩) := blk_cell hkp 0
       have hp1 : W.cell? ⟨p, 1, none⟩ = some (.string ⟨ts[j].1.2.toArray⟩) := blk_cell hkp 1
       have hc62 : W.cell? ⟨w3.heap.size, 2, none⟩ = some (.slice Au ((ts.take j).map toPar).length cu) := blk_cell hk6 2
       have hlj : ((ts.take j).map toPar).length ≤ 1000 := by rw [List.length_map, List.length_take]; omega
       have hxl := hsm _ (List.getElem_mem hj)
       have hus : (q2.size : Int) - ts[j].2.toArray.size = usedF q2.size (ts.take (j + 1)) := by rw [usedF_succ _ _ _ hj, List.size_toArray]
       have hpar : (ts.take (j + 1)).map toPar = (ts.take j).map toPar ++ [(⟨⟨ts[j].1.1.toArray⟩, ⟨ts[j].1.2.toArray⟩⟩ : S49)] := by rw [List.take_succ_eq_append_getElem hj, List.map_append]; rfl
       have HUS := Aside0.mk hus
       have HPAR := Aside0.mk hpar
       have HBW : Aside0 (w4.heap.size + 1 + 1 < W.heap.size) := ⟨by have := HSZ.out; omega⟩
       have hxl2 : ts[j].2.toArray.size ≤ q2.size := by rw [List.size_toArray]; exact hxl
       clear hI hR hk6 hkp hus hpar hbW HTT HA HP hit hI0 hbox HSZ hxl
       generalize (ts.take j).map toPar = row at hI' hR' hk6' hc62 hlj HPAR
       generalize ts[j].2.toArray = rst at HUS hxl2
       generalize ts[j].1.1.toArray = xn at hp0 HPAR
       generalize ts[j].1.2.toArray = xv at hp1 HPAR
       unfold litQ
       gi_wp2_with (gi_at_builtin; refine R_appendIn k49 (w0 := w) w.heap.size rfl (.tmp 63) (.tmp 65) 25 49 (.agg #[(.string ⟨#[]⟩), (.string ⟨#[]⟩)]) 32 rfl Tryd.underlying25 info49 rfl (by decide) (by omega) (.slice Au row.length cu) row ⟨⟨xn⟩, ⟨xv⟩⟩ [.string ⟨xn⟩, .string ⟨xv⟩] (fun k => k ≠ w4.heap.size + 1 + 1) (fun _ => False) rfl rfl ?aP (fun _ hk => hk.elim) ?aF ?aO ?aB ?aS ?aL ?_; (case aP => exact k49_mkM _ _ _ _); (case aF => exact fun k hk => by have := HBW.out; omega); (case aO => exact hR'.out); (case aB => exact hI'.out.Bel); (case aS => exact hI'.out.Bel.size); (case aL => omega); intro v1 W1 ho hb hgr hat; have hk61 := blk_grown hk6'.out hgr (fun e => ((Kd.R_types hR'.out hk6'.out (by decide)).1 _ e.symm).2 rfl); have hk81 := blk_grown hI'.out.B8 hgr (fun e => ((Kd.R_types hR'.out hI'.out.B8 (by decide)).1 _ e.symm).2 rfl); have hk101 := blk_grown hI'.out.B10 hgr (fun e => ((Kd.R_types hR'.out hI'.out.B10 (by decide)).1 _ e.symm).2 rfl); obtain ⟨A1, c1, rfl⟩ := Kd.R_slice ho; have m62 : W1.cell? ⟨w3.heap.size, 2, none⟩ = some (.slice Au row.length cu) := blk_cell hk61 2; have m62f := blk_frozen hk61 2; have hk82 : (W1.setCell ⟨w3.heap.size, 2, none⟩ (.slice A1 (row.length + 1) c1)).heap[w4.heap.size]? = some (.cells #[.string q2] 9 (0, 0)) := blk_far hk81 (p := ⟨w3.heap.size, 2, none⟩) (by show w4.heap.size ≠ w3.heap.size; omega) _; have m8 : (W1.setCell ⟨w3.heap.size, 2, none⟩ (.slice A1 (row.length + 1) c1)).cell? ⟨w4.heap.size, 0, none⟩ = some (.string q2) := blk_cell hk82 0; have hk102 : (W1.setCell ⟨w3.heap.size, 2, none⟩ (.slice A1 (row.length + 1) c1)).heap[w4.heap.size + 1]? = some (.cells #[.int .i64 _] 3 (0, 0)) := blk_far hk101 (p := ⟨w3.heap.size, 2, none⟩) (by show w4.heap.size + 1 ≠ w3.heap.size; omega) _; have m10 := blk_cell hk102 0; have m10f := blk_frozen hk102 0; simp only [List.getElem?_toArray, List.getElem?_cons_zero] at m10; have HO := Aside0.mk ho; have HB1 := Aside0.mk hb; have HGR := Aside0.mk hgr; clear hk61 hk81 hk101 hk82 hk102 ho hb hgr hat)
       have ho := HO.out
       rw [show (row ++ [(⟨⟨xn⟩, ⟨xv⟩⟩ : S49)]).length = row.length + 1 from by simp] at ho
       obtain ⟨s1, s2, s3⟩ := ParseI.step (b := W0.heap.size) hI'.out ((q2.size : Int) - rst.size) hR'.out hk6'.out ho HB1.out HGR.out HBW.out (by omega) (by omega) (by omega) (by omega) (by omega) (by omega) (by omega)
       exact ⟨s1, s2, by show ParseI w w3.heap.size w4.heap.size (w4.heap.size + 1) (w4.heap.size + 1 + 1) (i : Int) q1 q2 ((ts.take (j + 1)).map toPar) (usedF q2.size (ts.take (j + 1))) _; rw [HPAR.out, ← HUS.out]; exact s3⟩
      case done =>
       intro D W hD hI hk
       have hI2 : ParseI w w3.heap.size w4.heap.size (w4.heap.size + 1) (w4.heap.size + 1 + 1) (i : Int) q1 q2 (ts.map toPar) (usedF q2.size ts) W := by have := hI; rwa [List.take_length] at this
       obtain ⟨us6, hR, hk6⟩ := hI2.R
       obtain ⟨Au, cu, rfl⟩ := Kd.R_slice hR
       have hI' := Aside0.mk hI2
       have hR' := Aside0.mk hR
       have hk6' := Aside0.mk hk6
       have HM' : Aside0 (MarksP w [markD D] W) := ⟨.inr ⟨D, rfl, by omega, hk⟩⟩
       have hc10 : W.cell? ⟨w4.heap.size + 1, 0, none⟩ = some (.int .i64 (usedF q2.size ts)) := blk_cell hI2.B10 0
       have hc8 : W.cell? ⟨w4.heap.size, 0, none⟩ = some (.string q2) := blk_cell hI2.B8 0
       have hz0 : W.cell? ⟨w.heap.size, 0, none⟩ = some (.int .u8 0) := blk_cell hI2.G 0
       have hz1 : W.cell? ⟨w.heap.size, 1, none⟩ = some (.string ⟨#[]⟩) := blk_cell hI2.G 1
       have hz2 : W.cell? ⟨w.heap.size, 2, none⟩ = some (.slice none 0 0) := blk_cell hI2.G 2
       have hy0 := blk_frozen hI2.G 0
       have hy1 := blk_frozen hI2.G 1
       have hy2 := blk_frozen hI2.G 2
       have hx0 : W.cell? ⟨w3.heap.size, 0, none⟩ = some (.int .u8 (i : Int)) := blk_cell hk6 0
       have hx1 : W.cell? ⟨w3.heap.size, 1, none⟩ = some (.string q1) := blk_cell hk6 1
       have hx2 : W.cell? ⟨w3.heap.size, 2, none⟩ = some (.slice Au (ts.map toPar).length cu) := blk_cell hk6 2
       have hsf : ∀ W, Calls Tryd.prog 32 #[.string q2, .string ⟨#[32]⟩] W fun e w' => e = .returned (.bool (Lib.hasSuffix q2.data.toList [32])) ∧ w' = W := fun W => Tryd.strings_HasSuffix q2 ⟨#[32]⟩ W (by omega)
       have hmcall : ∀ m, cmd_May.f 1 (i : Int) q1 (ts.map toPar) = some m → ∀ W2, Below W.heap.size W W2 → Calls Tryd.prog 17 #[.agg #[.int .u8 (i : Int), .string q1, .slice Au (ts.map toPar).length cu]] W2 fun e w' => e = .returned (.bool m) ∧ Below W2.heap.size W2 w' := fun m hm W2 hb =>
        cmd_May.calls 1 (i : Int) q1 Au cu (ts.map toPar) m W2 (Kd.C_below (Kd.R_reads' hR).2.2 hb) (Kd.R_reads' hR).2.1 hm
       have ht := HTT.out
       clear hI hI2 hR hk6 hk hit hI0 hbox HSZ hsm htl HTT HP hts
       generalize usedF q2.size ts = us at hc10 ht hI'
       generalize ts.map toPar = row at hx2 ht hI' hR' hk6' hmcall
       generalize Lib.hasSuffix q2.data.toList [32] = sb at hsf ht
       cases hub : (us != (q2.size : Int)) with
       | true =>
        have HE : Aside0 ((r1, r2, r3, r4) = errP) := ⟨by rw [hub] at ht; simpa using ht.symm⟩
        clear ht hmcall
        gi_wp2
        exact leave_err w _ _ W HM'.out 4 r1 r2 r3 r4 HE.out hI'.out.G rfl rfl hI'.out.Bel
       | false =>
        cases sb with
        | true =>
         have HE : Aside0 ((r1, r2, r3, r4) = errP) := ⟨by simpa using ht.symm⟩
         clear ht hmcall
         gi_wp2_with (gi_at_call 32; refine (CallsIn.mono (callsIn_wide.2 (hsf _)) ?_); rintro e w' ⟨rfl, hw⟩; obtain rfl := hw.symm; clear hw)
         exact leave_err w _ _ W HM'.out 4 r1 r2 r3 r4 HE.out hI'.out.G rfl rfl hI'.out.Bel
        | false =>
         rw [hub] at ht
         simp only [Bool.or_self, Bool.false_eq_true, if_false] at ht
         obtain ⟨m, hmay, ht⟩ := Option.bind_eq_some_iff.1 ht
         have hmc := hmcall m hmay
         have HT := Aside0.mk (Option.some.inj ht)
         clear ht hmcall hmay
         cases m with
         | false =>
          gi_wp2_with (first | (gi_at_call 32; refine (CallsIn.mono (callsIn_wide.2 (hsf _)) ?_); rintro e w' ⟨rfl, hw⟩; obtain rfl := hw.symm; clear hw) | (gi_at_call 17; refine (CallsIn.mono (callsIn_wide.2 (hmc _ (Below.refl _ _))) ?_); rintro e w5 ⟨rfl, hb⟩; have hg5 := blk_below hI'.out.G hb; have hk5 := blk_below hk6'.out hb; have HG5 := Aside0.mk hg5; have HB5 := Aside0.mk (below_step hI'.out.Bel hb); have HM5 := Aside0.mk (HM'.out.below hb); have HR5 := Aside0.mk (Kd.R_below hR'.out hb); have hc0 := blk_cell hk5 0; have hc1 := blk_cell hk5 1; have hc2 := blk_cell hk5 2; have hd0 := blk_cell hg5 0; have hd1 := blk_cell hg5 1; have hd2 := blk_cell hg5 2; have hf0 := blk_frozen hg5 0; have hf1 := blk_frozen hg5 1; have hf2 := blk_frozen hg5 2; simp only [List.getElem?_toArray, List.getElem?_cons_zero, List.getElem?_cons_succ] at hc0 hc1 hc2 hd0 hd1 hd2; clear hb hg5 hk5))
          exact HK.out _ _ ⟨[markD D], FrameP.mk' _ _ rfl, HB5.out, HG5.out, HM5.out, HA.out [markD D] (by have := HT.out; simpa using this.symm)⟩
         | true =>
          gi_wp2_with (first | (gi_at_call 32; refine (CallsIn.mono (callsIn_wide.2 (hsf _)) ?_); rintro e w' ⟨rfl, hw⟩; obtain rfl := hw.symm; clear hw) | (gi_at_call 17; refine (CallsIn.mono (callsIn_wide.2 (hmc _ (Below.refl _ _))) ?_); rintro e w5 ⟨rfl, hb⟩; have hg5 := blk_below hI'.out.G hb; have hk5 := blk_below hk6'.out hb; have HG5 := Aside0.mk hg5; have HB5 := Aside0.mk (below_step hI'.out.Bel hb); have HM5 := Aside0.mk (HM'.out.below hb); have HR5 := Aside0.mk (Kd.R_below hR'.out hb); have hc0 := blk_cell hk5 0; have hc1 := blk_cell hk5 1; have hc2 := blk_cell hk5 2; have hd0 := blk_cell hg5 0; have hd1 := blk_cell hg5 1; have hd2 := blk_cell hg5 2; have hf0 := blk_frozen hg5 0; have hf1 := blk_frozen hg5 1; have hf2 := blk_frozen hg5 2; simp only [List.getElem?_toArray, List.getElem?_cons_zero, List.getElem?_cons_succ] at hc0 hc1 hc2 hd0 hd1 hd2; clear hb hg5 hk5))
          have h := HT.out
          simp only [if_true] at h
          cases h
          exact leave_ok w _ [markD D] w5 HM5.out _ _ _ _ 0 (fun k => k ≠ w4.heap.size + 1 + 1) HG5.out rfl rfl HR5.out HB5.out
     ·gi_wp2_with (first | (gi_at_call 29; refine (CallsIn.mono (callsIn_wide.2 (hgr _)) ?_); rintro e w3 ⟨rfl, hb⟩; have HB3 := Aside0.mk (below_step HB.out hb); have HG3 := Aside0.mk (blk_below HG.out hb); have HM3 := Aside0.mk (HM.out.below hb); clear hb) | (gi_at_call 28; refine (CallsIn.mono (callsIn_wide.2 (hpf _)) ?_); rintro e w' ⟨rfl, hw⟩; obtain rfl := hw.symm; clear hw) | (gi_at_call 30; refine (CallsIn.mono (callsIn_wide.2 (hpc _)) ?_); rintro e w4 ⟨rfl, hb⟩; have hpf4 := PathF.of q1 q2 HB3.out HG3.out hb; have HP := Aside0.mk hpf4; have k51 := hpf4.k51; have q51 := blk_frozen hpf4.K5 1; have g50 := hpf4.g50; have g51 := hpf4.g51; have g52 := hpf4.g52; have f50 := blk_frozen hpf4.G5 0; have f51 := blk_frozen hpf4.G5 1; have f52 := blk_frozen hpf4.G5 2; have l58 := hpf4.l58; clear hb hpf4) | (gi_at_call 31; refine (CallsIn.mono (callsIn_wide.2 (htold _)) ?_); rintro e w' ⟨rfl, hw⟩; obtain rfl := hw.symm; clear hw))
      have hp4 := HP.out
      have hw3 : w.heap.size < w3.heap.size := hp4.wlt
      have hw34 : w3.heap.size < w4.heap.size := hp4.lt
      obtain ⟨ts, hts⟩ : ∃ ts, toldF q2.size q2.data.toList = ts := ⟨_, rfl⟩
      have hsm : ∀ x ∈ ts, x.2.length ≤ q2.size := fun x hx => by have := (toldF_small q2.size q2.data.toList x (hts ▸ hx)).1; rwa [len_eq] at this
      have htl : ts.length ≤ 1000 := by have := toldF_len q2.size q2.data.toList; rw [hts] at this; omega
      have hit := told_iter (w4.heap.size + 1 + 1) q2 (by omega)
      rw [hts] at hit HTT
      have hI0 : ParseI w w3.heap.size w4.heap.size (w4.heap.size + 1) (w4.heap.size + 1 + 1) (i : Int) q1 q2 (ts.take 0 |>.map toPar) (usedF q2.size (ts.take 0)) ((((w4.alloc (.cells #[.string q2] 9)).setCell ⟨w3.heap.size, 1, none⟩ (.string q1)).alloc (.cells #[.int .i64 0] 3)).alloc (.cells #[.string q2] 9)) := by
       refine ⟨⟨.slice none 0 0, Kd.R_nil _ _ _ _ _, ?_⟩, ?_, ?_, ?_, ?_⟩
       ·exact blk_alloc (blk_alloc (blk_put hp4.K5 1 (.string q1) rfl) _) _
       ·exact blk_alloc (blk_alloc (blk_far (heap_alloc_new w4 (.cells #[.string q2] 9)) (p := ⟨w3.heap.size, 1, none⟩) hp4.ne _) _) _
       ·refine blk_alloc ?_ _
        have := heap_alloc_new ((w4.alloc (.cells #[.string q2] 9)).setCell ⟨w3.heap.size, 1, none⟩ (.string q1)) (.cells #[.int .i64 0] 3)
        rw [World.size_setCell, World.size_alloc] at this
        exact this
       ·exact blk_alloc (blk_alloc (blk_far hp4.G5 (p := ⟨w3.heap.size, 1, none⟩) (by show w.heap.size ≠ w3.heap.size; omega) _) _) _
       ·exact below_alloc (below_alloc (hp4.B5.setCell (p := ⟨w3.heap.size, 1, none⟩) (by show w.heap.size ≤ w3.heap.size; omega) _) _) _
      have hsz : ((((w4.alloc (.cells #[.string q2] 9)).setCell ⟨w3.heap.size, 1, none⟩ (.string q1)).alloc (.cells #[.int .i64 0] 3)).alloc (.cells #[.string q2] 9)).heap.size = w4.heap.size + 1 + 1 + 1 := by simp
      have hbox : ((((w4.alloc (.cells #[.string q2] 9)).setCell ⟨w3.heap.size, 1, none⟩ (.string q1)).alloc (.cells #[.int .i64 0] 3)).alloc (.cells #[.string q2] 9)).heap[w4.heap.size + 1 + 1]? = some (.cells #[.string q2] 9 (0, 0)) := by
       have := heap_alloc_new (((w4.alloc (.cells #[.string q2] 9)).setCell ⟨w3.heap.size, 1, none⟩ (.string q1)).alloc (.cells #[.int .i64 0] 3)) (.cells #[.string q2] 9)
       rw [World.size_alloc, World.size_setCell, World.size_alloc] at this
       exact this
      clear k51 q51 g50 g51 g52 f50 f51 f52 l58
      generalize ((((w4.alloc (.cells #[.string q2] 9)).setCell ⟨w3.heap.size, 1, none⟩ (.string q1)).alloc (.cells #[.int .i64 0] 3)).alloc (.cells #[.string q2] 9)) = W0 at hI0 hsz hbox ⊢
      have HSZ := Aside0.mk hsz
      refine wpIn_rangeB2 (gf := 42) (lb := #[.pointer (some ⟨w4.heap.size + 1 + 1, 0, none⟩)]) rfl (enters_of Tryd.func42 (by kernel_rfl) rfl) hit (by omega)
       (fun W hb => (hb.block _ (by omega)).trans hbox) (fun _ => rfl)
       (fun j W => ParseI w w3.heap.size w4.heap.size (w4.heap.size + 1) (w4.heap.size + 1 + 1) (i : Int) q1 q2 ((ts.take j).map toPar) (usedF q2.size (ts.take j)) W)
       (fun c j W => False)
       (fun j A A' row hs hg hr => hs.grown hg hr (by omega) (by omega) (by omega) (by omega) (by omega))
       (fun c j A A' row hs hg hr => hs)
       hI0
       (fun x a' W => GQ w3.heap.size w4.heap.size (w4.heap.size + 1) W0.heap.size x a' W) (fun x a' => gQ_own (by omega) x a') ?assign ?body ?done ?stop
      case assign =>
       intro l x W K hbW hK
       clear HTT HA HP hit hI0 hbox HSZ
       simp only [encT]
       gi_wp2
       exact hK _ _ (below_alloc (Below.refl _ _) _) (GQ.mk' W.heap.size rfl hbW (heap_alloc_new W _))
      case stop => exact fun _ _ _ _ _ _ h => h.elim
      case body =>
       rintro l j hj a' W hbW hI ⟨u, p, rfl, hp, hkp⟩
       obtain ⟨us, hR, hk6⟩ := hI.R
       obtain ⟨Au, cu, rfl⟩ := Kd.R_slice hR
       have hI' := Aside0.mk hI
       have hR' := Aside0.mk hR
       have hk6' := Aside0.mk hk6
       have hp0 : W.cell? ⟨p, 0, none⟩ = some (.string ⟨ts[j].1.1.toArray⟩) := blk_cell hkp 0
       have hp1 : W.cell? ⟨p, 1, none⟩ = some (.string ⟨ts[j].1.2.toArray⟩) := blk_cell hkp 1
       have hc62 : W.cell? ⟨w3.heap.size, 2, none⟩ = some (.slice Au ((ts.take j).map toPar).length cu) := blk_cell hk6 2
       have hlj : ((ts.take j).map toPar).length ≤ 1000 := by rw [List.length_map, List.length_take]; omega
       have hxl := hsm _ (List.getElem_mem hj)
       have hus : (q2.size : Int) - ts[j].2.toArray.size = usedF q2.size (ts.take (j + 1)) := by rw [usedF_succ _ _ _ hj, List.size_toArray]
       have hpar : (ts.take (j + 1)).map toPar = (ts.take j).map toPar ++ [(⟨⟨ts[j].1.1.toArray⟩, ⟨ts[j].1.2.toArray⟩⟩ : S49)] := by rw [List.take_succ_eq_append_getElem hj, List.map_append]; rfl
       have HUS := Aside0.mk hus
       have HPAR := Aside0.mk hpar
       have HBW : Aside0 (w4.heap.size + 1 + 1 < W.heap.size) := ⟨by have := HSZ.out; omega⟩
       have hxl2 : ts[j].2.toArray.size ≤ q2.size := by rw [List.size_toArray]; exact hxl
       clear hI hR hk6 hkp hus hpar hbW HTT HA HP hit hI0 hbox HSZ hxl
       generalize (ts.take j).map toPar = row at hI' hR' hk6' hc62 hlj HPAR
       generalize ts[j].2.toArray = rst at HUS hxl2
       generalize ts[j].1.1.toArray = xn at hp0 HPAR
       generalize ts[j].1.2.toArray = xv at hp1 HPAR
       unfold litQ
       gi_wp2_with (gi_at_builtin; refine R_appendIn k49 (w0 := w) w.heap.size rfl (.tmp 63) (.tmp 65) 25 49 (.agg #[(.string ⟨#[]⟩), (.string ⟨#[]⟩)]) 32 rfl Tryd.underlying25 info49 rfl (by decide) (by omega) (.slice Au row.length cu) row ⟨⟨xn⟩, ⟨xv⟩⟩ [.string ⟨xn⟩, .string ⟨xv⟩] (fun k => k ≠ w4.heap.size + 1 + 1) (fun _ => False) rfl rfl ?aP (fun _ hk => hk.elim) ?aF ?aO ?aB ?aS ?aL ?_; (case aP => exact k49_mkM _ _ _ _); (case aF => exact fun k hk => by have := HBW.out; omega); (case aO => exact hR'.out); (case aB => exact hI'.out.Bel); (case aS => exact hI'.out.Bel.size); (case aL => omega); intro v1 W1 ho hb hgr hat; have hk61 := blk_grown hk6'.out hgr (fun e => ((Kd.R_types hR'.out hk6'.out (by decide)).1 _ e.symm).2 rfl); have hk81 := blk_grown hI'.out.B8 hgr (fun e => ((Kd.R_types hR'.out hI'.out.B8 (by decide)).1 _ e.symm).2 rfl); have hk101 := blk_grown hI'.out.B10 hgr (fun e => ((Kd.R_types hR'.out hI'.out.B10 (by decide)).1 _ e.symm).2 rfl); obtain ⟨A1, c1, rfl⟩ := Kd.R_slice ho; have m62 : W1.cell? ⟨w3.heap.size, 2, none⟩ = some (.slice Au row.length cu) := blk_cell hk61 2; have m62f := blk_frozen hk61 2; have hk82 : (W1.setCell ⟨w3.heap.size, 2, none⟩ (.slice A1 (row.length + 1) c1)).heap[w4.heap.size]? = some (.cells #[.string q2] 9 (0, 0)) := blk_far hk81 (p := ⟨w3.heap.size, 2, none⟩) (by show w4.heap.size ≠ w3.heap.size; omega) _; have m8 : (W1.setCell ⟨w3.heap.size, 2, none⟩ (.slice A1 (row.length + 1) c1)).cell? ⟨w4.heap.size, 0, none⟩ = some (.string q2) := blk_cell hk82 0; have hk102 : (W1.setCell ⟨w3.heap.size, 2, none⟩ (.slice A1 (row.length + 1) c1)).heap[w4.heap.size + 1]? = some (.cells #[.int .i64 _] 3 (0, 0)) := blk_far hk101 (p := ⟨w3.heap.size, 2, none⟩) (by show w4.heap.size + 1 ≠ w3.heap.size; omega) _; have m10 := blk_cell hk102 0; have m10f := blk_frozen hk102 0; simp only [List.getElem?_toArray, List.getElem?_cons_zero] at m10; have HO := Aside0.mk ho; have HB1 := Aside0.mk hb; have HGR := Aside0.mk hgr; clear hk61 hk81 hk101 hk82 hk102 ho hb hgr hat)
       have ho := HO.out
       rw [show (row ++ [(⟨⟨xn⟩, ⟨xv⟩⟩ : S49)]).length = row.length + 1 from by simp] at ho
       obtain ⟨s1, s2, s3⟩ := ParseI.step (b := W0.heap.size) hI'.out ((q2.size : Int) - rst.size) hR'.out hk6'.out ho HB1.out HGR.out HBW.out (by omega) (by omega) (by omega) (by omega) (by omega) (by omega) (by omega)
       exact ⟨s1, s2, by show ParseI w w3.heap.size w4.heap.size (w4.heap.size + 1) (w4.heap.size + 1 + 1) (i : Int) q1 q2 ((ts.take (j + 1)).map toPar) (usedF q2.size (ts.take (j + 1))) _; rw [HPAR.out, ← HUS.out]; exact s3⟩
      case done =>
       intro D W hD hI hk
       have hI2 : ParseI w w3.heap.size w4.heap.size (w4.heap.size + 1) (w4.heap.size + 1 + 1) (i : Int) q1 q2 (ts.map toPar) (usedF q2.size ts) W := by have := hI; rwa [List.take_length] at this
       obtain ⟨us6, hR, hk6⟩ := hI2.R
       obtain ⟨Au, cu, rfl⟩ := Kd.R_slice hR
       have hI' := Aside0.mk hI2
       have hR' := Aside0.mk hR
       have hk6' := Aside0.mk hk6
       have HM' : Aside0 (MarksP w [markD D] W) := ⟨.inr ⟨D, rfl, by omega, hk⟩⟩
       have hc10 : W.cell? ⟨w4.heap.size + 1, 0, none⟩ = some (.int .i64 (usedF q2.size ts)) := blk_cell hI2.B10 0
       have hc8 : W.cell? ⟨w4.heap.size, 0, none⟩ = some (.string q2) := blk_cell hI2.B8 0
       have hz0 : W.cell? ⟨w.heap.size, 0, none⟩ = some (.int .u8 0) := blk_cell hI2.G 0
       have hz1 : W.cell? ⟨w.heap.size, 1, none⟩ = some (.string ⟨#[]⟩) := blk_cell hI2.G 1
       have hz2 : W.cell? ⟨w.heap.size, 2, none⟩ = some (.slice none 0 0) := blk_cell hI2.G 2
       have hy0 := blk_frozen hI2.G 0
       have hy1 := blk_frozen hI2.G 1
       have hy2 := blk_frozen hI2.G 2
       have hx0 : W.cell? ⟨w3.heap.size, 0, none⟩ = some (.int .u8 (i : Int)) := blk_cell hk6 0
       have hx1 : W.cell? ⟨w3.heap.size, 1, none⟩ = some (.string q1) := blk_cell hk6 1
       have hx2 : W.cell? ⟨w3.heap.size, 2, none⟩ = some (.slice Au (ts.map toPar).length cu) := blk_cell hk6 2
       have hsf : ∀ W, Calls Tryd.prog 32 #[.string q2, .string ⟨#[32]⟩] W fun e w' => e = .returned (.bool (Lib.hasSuffix q2.data.toList [32])) ∧ w' = W := fun W => Tryd.strings_HasSuffix q2 ⟨#[32]⟩ W (by omega)
       have hmcall : ∀ m, cmd_May.f 1 (i : Int) q1 (ts.map toPar) = some m → ∀ W2, Below W.heap.size W W2 → Calls Tryd.prog 17 #[.agg #[.int .u8 (i : Int), .string q1, .slice Au (ts.map toPar).length cu]] W2 fun e w' => e = .returned (.bool m) ∧ Below W2.heap.size W2 w' := fun m hm W2 hb =>
        cmd_May.calls 1 (i : Int) q1 Au cu (ts.map toPar) m W2 (Kd.C_below (Kd.R_reads' hR).2.2 hb) (Kd.R_reads' hR).2.1 hm
       have ht := HTT.out
       clear hI hI2 hR hk6 hk hit hI0 hbox HSZ hsm htl HTT HP hts
       generalize usedF q2.size ts = us at hc10 ht hI'
       generalize ts.map toPar = row at hx2 ht hI' hR' hk6' hmcall
       generalize Lib.hasSuffix q2.data.toList [32] = sb at hsf ht
       cases hub : (us != (q2.size : Int)) with
       | true =>
        have HE : Aside0 ((r1, r2, r3, r4) = errP) := ⟨by rw [hub] at ht; simpa using ht.symm⟩
        clear ht hmcall
        gi_wp2
        exact leave_err w _ _ W HM'.out 4 r1 r2 r3 r4 HE.out hI'.out.G rfl rfl hI'.out.Bel
       | false =>
        cases sb with
        | true =>
         have HE : Aside0 ((r1, r2, r3, r4) = errP) := ⟨by simpa using ht.symm⟩
         clear ht hmcall
         gi_wp2_with (gi_at_call 32; refine (CallsIn.mono (callsIn_wide.2 (hsf _)) ?_); rintro e w' ⟨rfl, hw⟩; obtain rfl := hw.symm; clear hw)
         exact leave_err w _ _ W HM'.out 4 r1 r2 r3 r4 HE.out hI'.out.G rfl rfl hI'.out.Bel
        | false =>
         rw [hub] at ht
         simp only [Bool.or_self, Bool.false_eq_true, if_false] at ht
         obtain ⟨m, hmay, ht⟩ := Option.bind_eq_some_iff.1 ht
         have hmc := hmcall m hmay
         have HT := Aside0.mk (Option.some.inj ht)
         clear ht hmcall hmay
         cases m with
         | false =>
          gi_wp2_with (first | (gi_at_call 32; refine (CallsIn.mono (callsIn_wide.2 (hsf _)) ?_); rintro e w' ⟨rfl, hw⟩; obtain rfl := hw.symm; clear hw) | (gi_at_call 17; refine (CallsIn.mono (callsIn_wide.2 (hmc _ (Below.refl _ _))) ?_); rintro e w5 ⟨rfl, hb⟩; have hg5 := blk_below hI'.out.G hb; have hk5 := blk_below hk6'.out hb; have HG5 := Aside0.mk hg5; have HB5 := Aside0.mk (below_step hI'.out.Bel hb); have HM5 := Aside0.mk (HM'.out.below hb); have HR5 := Aside0.mk (Kd.R_below hR'.out hb); have hc0 := blk_cell hk5 0; have hc1 := blk_cell hk5 1; have hc2 := blk_cell hk5 2; have hd0 := blk_cell hg5 0; have hd1 := blk_cell hg5 1; have hd2 := blk_cell hg5 2; have hf0 := blk_frozen hg5 0; have hf1 := blk_frozen hg5 1; have hf2 := blk_frozen hg5 2; simp only [List.getElem?_toArray, List.getElem?_cons_zero, List.getElem?_cons_succ] at hc0 hc1 hc2 hd0 hd1 hd2; clear hb hg5 hk5))
          exact HK.out _ _ ⟨[markD D], FrameP.mk' _ _ rfl, HB5.out, HG5.out, HM5.out, HA.out [markD D] (by have := HT.out; simpa using this.symm)⟩
         | true =>
          gi_wp2_with (first | (gi_at_call 32; refine (CallsIn.mono (callsIn_wide.2 (hsf _)) ?_); rintro e w' ⟨rfl, hw⟩; obtain rfl := hw.symm; clear hw) | (gi_at_call 17; refine (CallsIn.mono (callsIn_wide.2 (hmc _ (Below.refl _ _))) ?_); rintro e w5 ⟨rfl, hb⟩; have hg5 := blk_below hI'.out.G hb; have hk5 := blk_below hk6'.out hb; have HG5 := Aside0.mk hg5; have HB5 := Aside0.mk (below_step hI'.out.Bel hb); have HM5 := Aside0.mk (HM'.out.below hb); have HR5 := Aside0.mk (Kd.R_below hR'.out hb); have hc0 := blk_cell hk5 0; have hc1 := blk_cell hk5 1; have hc2 := blk_cell hk5 2; have hd0 := blk_cell hg5 0; have hd1 := blk_cell hg5 1; have hd2 := blk_cell hg5 2; have hf0 := blk_frozen hg5 0; have hf1 := blk_frozen hg5 1; have hf2 := blk_frozen hg5 2; simp only [List.getElem?_toArray, List.getElem?_cons_zero, List.getElem?_cons_succ] at hc0 hc1 hc2 hd0 hd1 hd2; clear hb hg5 hk5))
          have h := HT.out
          simp only [if_true] at h
          cases h
          exact leave_ok w _ [markD D] w5 HM5.out _ _ _ _ 0 (fun k => k ≠ w4.heap.size + 1 + 1) HG5.out rfl rfl HR5.out HB5.out
   ·have h3b : ((i : Int) == 3) = false := beq_eq_false_iff_ne.2 (fun e => hp (.inl e))
    have h4b : ((i : Int) == 4) = false := beq_eq_false_iff_ne.2 (fun e => hp (.inr e))
    have ht := HTRY.out
    unfold tryV at ht
    rw [if_neg hp] at ht
    obtain ⟨m, hmay, ht⟩ := Option.bind_eq_some_iff.1 ht
    have hmc : ∀ W, Calls Tryd.prog 17 #[.agg #[.int .u8 (i : Int), .string arg, .slice none 0 0]] W fun e w' => e = .returned (.bool m) ∧ Below W.heap.size W w' := fun W => cmd_May.calls 1 (i : Int) arg none 0 [] m W (Kd.C_nil _ _) (Nat.le_refl _) hmay
    have HT := Aside0.mk (Option.some.inj ht)
    clear ht hmay HTRY hp hv
    cases m with
    | false =>
     gi_wp2_with (first | (gi_at_call 29; refine (CallsIn.mono (callsIn_wide.2 (hgr _)) ?_); rintro e w3 ⟨rfl, hb⟩; have HB3 := Aside0.mk (below_step HB.out hb); have HG3 := Aside0.mk (blk_below HG.out hb); have HM3 := Aside0.mk (HM.out.below hb); clear hb) | (gi_at_call 28; refine (CallsIn.mono (callsIn_wide.2 (hpf _)) ?_); rintro e w' ⟨rfl, hw⟩; obtain rfl := hw.symm; clear hw) | (gi_at_call 17; refine (CallsIn.mono (callsIn_wide.2 (hmc _)) ?_); rintro e w4 ⟨rfl, hb⟩; have hal : Below w3.heap.size w3 w4 := below_step (below_alloc (Below.refl _ _) _) hb; have hk4 := blk_below (heap_alloc_new w3 _) hb; have HB4 := Aside0.mk (below_step HB3.out hal); have hg4 := blk_below HG3.out hal; have HG4 := Aside0.mk hg4; have HM4 := Aside0.mk (HM3.out.below hal); have hc0 := blk_cell hk4 0; have hc1 := blk_cell hk4 1; have hc2 := blk_cell hk4 2; have hd0 := blk_cell hg4 0; have hd1 := blk_cell hg4 1; have hd2 := blk_cell hg4 2; have hf0 := blk_frozen hg4 0; have hf1 := blk_frozen hg4 1; have hf2 := blk_frozen hg4 2; simp only [List.getElem?_toArray, List.getElem?_cons_zero, List.getElem?_cons_succ] at hc0 hc1 hc2 hd0 hd1 hd2; clear hb hal hk4 hg4))
     exact HK.out _ _ ⟨[], FrameP.mk' _ _ rfl, HB4.out, HG4.out, HM4.out, HA.out [] (by have := HT.out; simpa using this.symm)⟩
    | true =>
     gi_wp2_with (first | (gi_at_call 29; refine (CallsIn.mono (callsIn_wide.2 (hgr _)) ?_); rintro e w3 ⟨rfl, hb⟩; have HB3 := Aside0.mk (below_step HB.out hb); have HG3 := Aside0.mk (blk_below HG.out hb); have HM3 := Aside0.mk (HM.out.below hb); clear hb) | (gi_at_call 28; refine (CallsIn.mono (callsIn_wide.2 (hpf _)) ?_); rintro e w' ⟨rfl, hw⟩; obtain rfl := hw.symm; clear hw) | (gi_at_call 17; refine (CallsIn.mono (callsIn_wide.2 (hmc _)) ?_); rintro e w4 ⟨rfl, hb⟩; have hal : Below w3.heap.size w3 w4 := below_step (below_alloc (Below.refl _ _) _) hb; have hk4 := blk_below (heap_alloc_new w3 _) hb; have HB4 := Aside0.mk (below_step HB3.out hal); have hg4 := blk_below HG3.out hal; have HG4 := Aside0.mk hg4; have HM4 := Aside0.mk (HM3.out.below hal); have hc0 := blk_cell hk4 0; have hc1 := blk_cell hk4 1; have hc2 := blk_cell hk4 2; have hd0 := blk_cell hg4 0; have hd1 := blk_cell hg4 1; have hd2 := blk_cell hg4 2; have hf0 := blk_frozen hg4 0; have hf1 := blk_frozen hg4 1; have hf2 := blk_frozen hg4 2; simp only [List.getElem?_toArray, List.getElem?_cons_zero, List.getElem?_cons_succ] at hc0 hc1 hc2 hd0 hd1 hd2; clear hb hal hk4 hg4))
     have h := HT.out
     simp only [if_true] at h
     cases h
     exact leave_ok w _ [] w4 HM4.out _ _ _ [] 0 (fun _ => True) HG4.out rfl rfl (Kd.R_nil _ _ _ _ _) HB4.out
end
set_option maxHeartbeats 1000000 in
theorem parse_long (s : ByteArray) (w : World) (hs : 510 < s.size) (h7 : s.size ≤ 140737488351232) :
  Calls Tryd.prog 14 #[.string s] w fun e w' => ∃ v2_ : Value, e = .returned (.tuple #[.agg #[.int .u8 0, .string ⟨#[]⟩, v2_], .int .i64 40]) ∧ Kd.R k49 49 w' w.heap.size (fun _ => True) v2_ [] ∧ Below w.heap.size w w' := by
 have h510 : decide (510 < (s.size : Int)) = true := decide_eq_true (by omega)
 have hg := heap_alloc_new w (.cells #[.int .u8 0, .string ⟨#[]⟩, .slice none 0 0] 27)
 have HG := Aside0.mk hg
 clear hg
 go_enter Tryd.func14, Tryd.ntmps14
 go_wp2
 refine bodyPost_ret (results_ct rfl _ _ w.heap.size 27 #[.int .u8 0, .string ⟨#[]⟩, .slice none 0 0] (0, 0) _ rfl (by first | exact HG.out | (refine blk_put (cs := #[.int .u8 0, .string ⟨#[]⟩, .slice none 0 0]) ?_ 2 _ rfl; refine blk_put (cs := #[.int .u8 0, .string ⟨#[]⟩, .slice none 0 0]) ?_ 1 _ rfl; refine blk_put (cs := #[.int .u8 0, .string ⟨#[]⟩, .slice none 0 0]) ?_ 0 _ rfl; exact HG.out)) Tryd.underlying27 rfl (by kernel_rfl)) rfl ?_
 exact ⟨.slice none 0 0, rfl, Kd.R_nil _ _ _ _ _, by repeat (first | exact Below.refl _ _ | apply below_alloc | refine below_set ?_ (Nat.le_refl _))⟩
theorem cmd_Parse.calls (a0 : ByteArray) (r1 : Int) (r2 : ByteArray) (r3 : List S49) (r4 : Int) (w : World) (h : cmd_Parse.f a0 = some (r1, r2, r3, r4)) :
  Calls Tryd.prog 14 #[.string a0] w fun e w' => ∃ v2_ : Value, e = .returned (.tuple #[.agg #[.int .u8 r1, .string r2, v2_], .int .i64 r4]) ∧ Kd.R k49 49 w' w.heap.size (fun _ => True) v2_ r3 ∧ Below w.heap.size w w' := by
 by_cases hs : a0.size ≤ 510
 ·exact callsIn_wide.1 (parse_in a0 w hs r1 r2 r3 r4 h)
 ·unfold cmd_Parse.f at h
  rw [if_pos (by omega)] at h
  by_cases h7 : a0.size ≤ 140737488351232
  ·rw [if_pos h7] at h
   cases h
   exact parse_long a0 w (by omega) h7
  ·rw [if_neg h7] at h; cases h
end Go.Proofs.YtljkopbalejcgaaDoor.P
end
section
namespace Go.Proofs.YtljkopbalejcgaaDoor.P
open Go.RowKit Go.Proofs.YtljkopbalejcgaaDoorW.PrintWords Go.Proofs.YtljkopbalejcgaaDoorW.PrintLast Go.Proofs.YtljkopbalejcgaaDoorW.PrintMore
attribute [local go_sem] max2_int min2_int max_two min_two max_three min_three max_four min_four
set_option linter.unusedVariables false
set_option linter.unusedSimpArgs false
open Go Go.Lib
def showP (s : ByteArray) (p : S49) : ByteArray := if p.f1.toList.isEmpty = true then s ++ (⟨#[32]⟩ ++ p.f0) else (s ++ (⟨#[32]⟩ ++ p.f0)) ++ (⟨#[61]⟩ ++ p.f1)
theorem may_verb {v : Int} {a : ByteArray} {l : List S49} (h : cmd_May.f 1 v a l = some true) : v = 1 ∨ v = 2 ∨ v = 3 ∨ v = 4 ∨ v = 5 ∨ v = 6 := by
 unfold cmd_May.f cmd_May.j0 at h
 by_cases h1 : v = 1
 ·omega
 by_cases h2 : v = 2
 ·omega
 by_cases h5 : v = 5
 ·omega
 by_cases h6 : v = 6
 ·omega
 by_cases h3 : v = 3
 ·omega
 by_cases h4 : v = 4
 ·omega
 simp [h1, h2, h3, h4, h5, h6] at h
set_option maxHeartbeats 2000000 in
set_option maxRecDepth 100000 in
theorem show_yes (v : Int) (a : ByteArray) (A : Option Addr) (c : Nat) (l : List S49) (w : World) (hr : Kd.C k49 w A l.length l) (hc : l.length ≤ c) (hl : l.length ≤ 1000) (hsz : ∀ i, i < l.length → (l.getD i z49).f0.size ≤ 140737488351232 ∧ (l.getD i z49).f1.size ≤ 140737488351232)
  (ha : a.size ≤ 140737488351232) (hm : cmd_May.f 1 v a l = some true) (tl : ByteArray) (htl : tl.size ≤ 140737488351242) (h34 : (v = 3 ∨ v = 4) → addr_Path.f a = some tl) (hno : ¬ (v = 3 ∨ v = 4) → tl = a) (res : ByteArray) (hres : Hid (res = l.foldl showP (wordB v ++ tl)))
  (r1 : ByteArray) (r2 : Int) (HRES : Hid ((if 510 < (res.size : Int) then (⟨#[]⟩, 40) else (res, 0)) = (r1, r2))) :
  Calls Tryd.prog 13 #[.agg #[.int .u8 v, .string a, .slice A l.length c]] w fun e w' => e = .returned (.tuple #[.string r1, .int .i64 r2]) ∧ Below w.heap.size w w' := by
 have hv := may_verb hm
 have HR := Aside0.mk hr
 have HSZ := Aside0.mk hsz
 have HC := Aside0.mk hc
 have hcall : ∀ W, Below w.heap.size w W → Calls Tryd.prog 17 #[.agg #[.int .u8 v, .string a, .slice A l.length c]] W fun e w' => e = .returned (.bool true) ∧ Below W.heap.size W w' := fun W hb => cmd_May.calls 1 v a A c l true W (Kd.C_below hr hb) hc hm
 have HCALL := Aside0.mk hcall
 clear hr hsz hcall hc
 go_enter Tryd.func13, Tryd.ntmps13
 go_upto_region 3 with (go_at_call 17; refine (HCALL.out _ (below_alloc (Below.refl _ _) _)).mono ?_; rintro e w1 ⟨rfl, hb⟩; have hk := blk_below (heap_alloc_new w _) hb; have HK := Aside0.mk hk; have HB := Aside0.mk (below_step (below_alloc (Below.refl w.heap.size w) _) hb); have hc0 : w1.cell? ⟨w.heap.size, 0, none⟩ = some (.int .u8 v) := blk_cell hk 0; have hc1 : w1.cell? ⟨w.heap.size, 1, none⟩ = some (.string a) := blk_cell hk 1; clear hb hk)
 have hws := wordB_size v
 have hrw := fun k W => run_wordB k v hv W
 generalize wordB v = wb at hws hrw hres
 have q4 : ¬ 9223372036854775807 < wb.size + a.size := by omega
 go_cut [4] (fun v4 wx => v4 = .string (wb ++ a) ∧ Aside0 (wx.heap[w.heap.size]? = some (.cells #[.int .u8 v, .string a, .slice A l.length c] 27 (0, 0))) ∧ Aside0 (Below w.heap.size w wx))
 case first =>
  clear HRES hres HCALL
  go_region_held3 (fun W => W.cell? ⟨w.heap.size, 0, none⟩ = some (.int .u8 v) ∧ W.cell? ⟨w.heap.size, 1, none⟩ = some (.string a)) (first | exact ⟨hc0, hc1⟩ | exact ⟨hd0, hd1⟩) (first | (go_at_call 26; refine (words_calls _).mono ?_; rintro e w2 ⟨rfl, hb⟩; have hk := blk_below (w := w1.drew) HK.out hb; have HK2 := Aside0.mk hk; have HB2 := Aside0.mk (below_step (below_drew1 HB.out) hb); have hd0 : w2.cell? ⟨w.heap.size, 0, none⟩ = some (.int .u8 v) := blk_cell hk 0; have hd1 : w2.cell? ⟨w.heap.size, 1, none⟩ = some (.string a) := blk_cell hk 1; clear hb hk))
  try go_wp2
  go_meet
  case rel => exact ⟨rfl, HK2, HB2⟩
 case rest =>
  obtain ⟨rfl, HK3, HB3⟩ := hcut
  have hc0 : wc.cell? ⟨w.heap.size, 0, none⟩ = some (.int .u8 v) := blk_cell HK3.out 0
  have hc1 : wc.cell? ⟨w.heap.size, 1, none⟩ = some (.string a) := blk_cell HK3.out 1
  have q5 : ¬ 9223372036854775807 < wb.size + tl.size := by omega
  go_upto_region 4 with fail
  go_cut [24] (fun v24 wx => v24 = .bool (decide (v = 3 ∨ v = 4)) ∧ wx = wc)
  case first =>
   clear HRES hres HCALL
   by_cases h3 : v = 3
   ·have h3b : (v == 3) = true := by rw [h3]; rfl
    have hd : decide (v = 3 ∨ v = 4) = true := decide_eq_true (.inl h3)
    clear h3
    go_wp2
    go_meet
    case rel => exact ⟨by rw [hd], rfl⟩
   ·have h3b : (v == 3) = false := beq_eq_false_iff_ne.2 h3
    have hd : decide (v = 3 ∨ v = 4) = (v == 4) := by rw [Bool.eq_iff_iff]; simp [h3]
    clear h3
    go_wp2
    go_meet
    case rel => exact ⟨by rw [hd], rfl⟩
  case rest =>
   obtain ⟨rfl, rfl⟩ := hcut
   go_upto_if 24 with fail
   go_cut [4] (fun v4 wx => v4 = .string (wb ++ tl) ∧ Aside0 (wx.heap[w.heap.size]? = some (.cells #[.int .u8 v, .string a, .slice A l.length c] 27 (0, 0))) ∧ Aside0 (Below w.heap.size w wx))
   case first =>
    clear HRES hres HCALL
    by_cases h : v = 3 ∨ v = 4
    ·have hp := h34 h
     rw [decide_eq_true h]
     clear hno h34
     go_upto_region 5 with fail
     go_region_held3 (fun W => W.cell? ⟨w.heap.size, 0, none⟩ = some (.int .u8 v) ∧ W.cell? ⟨w.heap.size, 1, none⟩ = some (.string a)) (first | exact ⟨hc0, hc1⟩ | exact ⟨hd0, hd1⟩ | exact ⟨he0, he1⟩) (first
      | (go_at_call 26; refine (words_calls _).mono ?_; rintro e w2 ⟨rfl, hb⟩; have hk := blk_below (w := World.drew _) HK3.out hb; have HK2 := Aside0.mk hk; have HB2 := Aside0.mk (below_step (below_drew1 HB3.out) hb); have hd0 : w2.cell? ⟨w.heap.size, 0, none⟩ = some (.int .u8 v) := blk_cell hk 0; have hd1 : w2.cell? ⟨w.heap.size, 1, none⟩ = some (.string a) := blk_cell hk 1; clear hb hk)
      | (go_at_call 27; refine (addr_Path.calls a tl _ hp).mono ?_; rintro e w3 ⟨rfl, hb⟩; have hk := blk_below HK2.out hb; have HK4 := Aside0.mk hk; have HB4 := Aside0.mk (below_step HB2.out hb); have he0 : w3.cell? ⟨w.heap.size, 0, none⟩ = some (.int .u8 v) := blk_cell hk 0; have he1 : w3.cell? ⟨w.heap.size, 1, none⟩ = some (.string a) := blk_cell hk 1; clear hb hk))
     all_goals (try go_wp2); (try go_meet); exact ⟨rfl, HK4, HB4⟩
    ·have e := hno h
     rw [decide_eq_false h]
     go_wp2
     go_meet
     case rel => exact ⟨by rw [e], HK3, HB3⟩
   case rest =>
    clear hno h34 hc0 hc1 hrw q5 HK3 HB3
    obtain ⟨rfl, HK5, HB5⟩ := hcut
    have hk2 : wc.cell? ⟨w.heap.size, 2, none⟩ = some (.slice A l.length c) := blk_cell HK5.out 2
    have hs0 : (wb ++ tl).size ≤ 281474976710656 := by rw [ByteArray.size_append]; omega
    generalize wb ++ tl = s0 at hres hs0
    go_wp2
    go_loopg [4, 36] l.length (fun gk v4 v36 wr => ∃ (k : Nat) (s : ByteArray), k ≤ l.length ∧ l.length - k ≤ gk ∧ v4 = .string s ∧ v36 = .int .i64 k ∧ Aside0 (res = (l.drop k).foldl showP s) ∧ Aside0 (s.size ≤ 281474976710656 + k * 562949953421312) ∧ Aside0 (Below w.heap.size w wr))
    case atStart => exact ⟨0, s0, by omega, by omega, rfl, rfl, ⟨hres⟩, ⟨by omega⟩, HB5⟩
    case round =>
     obtain ⟨k, s, hk, hg, rfl, rfl, HF, HS, HB⟩ := hrel
     by_cases hlt : k < l.length
     ·have hltz : (k : Int) < (l.length : Int) := by omega
      obtain ⟨ad, rfl, hc0, hc1⟩ := at_T49 (Kd.C_below HR.out HB.out) k (by omega) hltz
      rw [show rd_T49 l (k : Int) = l.getD k z49 from by unfold rd_T49; rw [Int.toNat_natCast]] at hc0 hc1
      rw [Int.toNat_natCast] at hc0 hc1
      obtain ⟨z1, z2⟩ := HSZ.out k hlt
      have hd : l.drop k = l.getD k z49 :: l.drop (k + 1) := by rw [List.drop_eq_getElem_cons hlt, List.getD_eq_getElem?_getD, List.getElem?_eq_getElem hlt]; rfl
      have hF : res = (l.drop (k + 1)).foldl showP (showP s (l.getD k z49)) := by rw [HF.out, hd]; rfl
      have HF2 := Lib.hid hF
      have hS := HS.out
      clear hF hd HF HS
      have hsp : ∀ p : S49, p = l.getD k z49 → showP s p = if p.f1.toList.isEmpty = true then s ++ (⟨#[32]⟩ ++ p.f0) else (s ++ (⟨#[32]⟩ ++ p.f0)) ++ (⟨#[61]⟩ ++ p.f1) := fun p _ => rfl
      have hsp := Lib.hid (hsp _ rfl)
      generalize (l.getD k z49).f0 = nk at hc0 z1 hsp
      generalize (l.getD k z49).f1 = vk at hc1 z2 hsp
      have q1 : ¬ 9223372036854775807 < 1 + nk.size := by omega
      have q2 : ¬ 9223372036854775807 < s.size + (1 + nk.size) := by omega
      have q3 : ¬ 9223372036854775807 < 1 + vk.size := by omega
      have q4 : ¬ 9223372036854775807 < s.size + (1 + nk.size) + (1 + vk.size) := by omega
      cases hv0 : vk.toList.isEmpty with
      | true =>
       have HE : Aside0 (showP s (l.getD k z49) = s ++ (⟨#[32]⟩ ++ nk)) := ⟨by rw [hsp, if_pos hv0]⟩
       have HZ : Aside0 ((s ++ ((⟨#[32]⟩ : ByteArray) ++ nk)).size = s.size + (1 + nk.size)) := ⟨by rw [ByteArray.size_append, ByteArray.size_append]; rfl⟩
       clear hsp
       go_wp2
       go_roundg (l.length - (k + 1))
       case measure => omega
       case rel => exact ⟨k + 1, _, by omega, by omega, rfl, by go_num, ⟨by rw [HF2.out, HE.out]⟩, ⟨by rw [HZ.out]; omega⟩, ⟨by repeat (first | exact HB.out | apply below_alloc)⟩⟩
      | false =>
       have HE : Aside0 (showP s (l.getD k z49) = (s ++ (⟨#[32]⟩ ++ nk)) ++ (⟨#[61]⟩ ++ vk)) := ⟨by rw [hsp, hv0]; rfl⟩
       have HZ : Aside0 (((s ++ ((⟨#[32]⟩ : ByteArray) ++ nk)) ++ ((⟨#[61]⟩ : ByteArray) ++ vk)).size = s.size + (1 + nk.size) + (1 + vk.size)) := ⟨by simp only [ByteArray.size_append]; rfl⟩
       clear hsp
       go_wp2
       go_roundg (l.length - (k + 1))
       case measure => omega
       case rel => exact ⟨k + 1, _, by omega, by omega, rfl, by go_num, ⟨by rw [HF2.out, HE.out]⟩, ⟨by rw [HZ.out]; omega⟩, ⟨by repeat (first | exact HB.out | apply below_alloc)⟩⟩
     ·have hltz : ¬ (k : Int) < (l.length : Int) := by omega
      have he : k = l.length := by omega
      have hF : s = res := by rw [HF.out, he, List.drop_of_length_le (Nat.le_refl _)]; rfl
      subst hF
      clear HF he
      cases h510 : decide (510 < (s.size : Int)) with
      | true =>
       have HE : Aside0 ((⟨#[]⟩ : ByteArray) = r1 ∧ (40 : Int) = r2) := ⟨by have h := HRES; rw [if_pos (of_decide_eq_true h510)] at h; simpa [Hid] using h⟩
       go_wp2
       go_ret2
       exact ⟨by obtain ⟨rfl, rfl⟩ := HE.out; rfl, HB.out⟩
      | false =>
       have HE : Aside0 (s = r1 ∧ (0 : Int) = r2) := ⟨by have h := HRES; rw [if_neg (of_decide_eq_false h510)] at h; simpa [Hid] using h⟩
       go_wp2
       go_ret2
       exact ⟨by obtain ⟨rfl, rfl⟩ := HE.out; rfl, HB.out⟩
set_option maxHeartbeats 1000000 in
theorem show_no (v : Int) (a : ByteArray) (A : Option Addr) (c : Nat) (l : List S49) (w : World) (hr : Kd.C k49 w A l.length l) (hc : l.length ≤ c) (hm : cmd_May.f 1 v a l = some false) :
  Calls Tryd.prog 13 #[.agg #[.int .u8 v, .string a, .slice A l.length c]] w fun e w' => e = .returned (.tuple #[.string ⟨#[]⟩, .int .i64 4]) ∧ Below w.heap.size w w' := by
 have hcall : ∀ W, Below w.heap.size w W → Calls Tryd.prog 17 #[.agg #[.int .u8 v, .string a, .slice A l.length c]] W fun e w' => e = .returned (.bool false) ∧ Below W.heap.size W w' := fun W hb => cmd_May.calls 1 v a A c l false W (Kd.C_below hr hb) hc hm
 have HCALL := Aside0.mk hcall
 clear hr hcall hc
 go_enter Tryd.func13, Tryd.ntmps13
 go_wp2_with (go_at_call 17; refine (HCALL.out _ (below_alloc (Below.refl _ _) _)).mono ?_; rintro e w1 ⟨rfl, hb⟩; have HB := Aside0.mk (below_step (below_alloc (Below.refl w.heap.size w) _) hb); clear hb)
 go_ret2
 exact ⟨rfl, HB.out⟩
def cmd_Show.f (a0_0 : Int) (a0_1 : ByteArray) (l0_2 : List S49) : Option (ByteArray × Int) :=
 if l0_2.length ≤ 1000 ∧ plSmall l0_2 = true ∧ a0_1.size ≤ 140737488351232 then
  (cmd_May.f 1 a0_0 a0_1 l0_2).bind fun m => if m = true then
   (if a0_0 = 3 ∨ a0_0 = 4 then addr_Path.f a0_1 else some a0_1).bind fun tl => if tl.size ≤ 140737488351242 then some (if 510 < ((l0_2.foldl showP (wordB a0_0 ++ tl)).size : Int) then (⟨#[]⟩, 40) else (l0_2.foldl showP (wordB a0_0 ++ tl), 0)) else none
  else some (⟨#[]⟩, 4)
 else none
theorem cmd_Show.calls (a0_0 : Int) (a0_1 : ByteArray) (A0_2 : Option Addr) (c0_2 : Nat) (l0_2 : List S49) (r1 : ByteArray) (r2 : Int) (w : World) (hr0_2 : Kd.C k49 w A0_2 l0_2.length l0_2) (hc0_2 : l0_2.length ≤ c0_2) (h : cmd_Show.f a0_0 a0_1 l0_2 = some (r1, r2)) :
  Calls Tryd.prog 13 #[.agg #[.int .u8 a0_0, .string a0_1, .slice A0_2 l0_2.length c0_2]] w fun e w' => e = .returned (.tuple #[.string r1, .int .i64 r2]) ∧ Below w.heap.size w w' := by
 unfold cmd_Show.f at h
 split at h
 ·rename_i hs
  obtain ⟨m, hm, h⟩ := Option.bind_eq_some_iff.1 h
  cases m with
  | false =>
   rw [if_neg (by simp)] at h
   obtain ⟨rfl, rfl⟩ := Prod.mk.inj (Option.some.inj h)
   exact show_no a0_0 a0_1 A0_2 c0_2 l0_2 w hr0_2 hc0_2 hm
  | true =>
   rw [if_pos rfl] at h
   obtain ⟨tl, htl, h⟩ := Option.bind_eq_some_iff.1 h
   by_cases ht : tl.size ≤ 140737488351242
   ·rw [if_pos ht] at h
    exact show_yes a0_0 a0_1 A0_2 c0_2 l0_2 w hr0_2 hc0_2 hs.1 (plSmall_at hs.2.1) hs.2.2 hm tl ht (fun h34 => by rw [if_pos h34] at htl; exact htl) (fun h34 => by rw [if_neg h34] at htl; exact (Option.some.inj htl).symm) _ rfl r1 r2 (Option.some.inj h)
   ·rw [if_neg ht] at h; cases h
 ·cases h
end Go.Proofs.YtljkopbalejcgaaDoor.P
end
section
set_option linter.unusedVariables false
set_option linter.unusedSimpArgs false
namespace Go.Proofs.YtljkopbalejcgaaDoor.P
open Go Go.RowKit Go.Lib Go.Proofs.YtljkopbalejcgaaDoorW.PrintWords
theorem index1_miss (c : UInt8) (l : List UInt8) (h : c ∉ l) : Lib.index l [c] = -1 := by
 induction l with
 | nil => simp [Lib.index]
 | cons b l ih =>
  have hb : (c == b) = false := by rw [beq_eq_false_iff_ne]; intro e; exact h (e ▸ List.mem_cons_self)
  have := ih (fun hm => h (List.mem_cons_of_mem _ hm))
  simp [Lib.index, List.isPrefixOf, hb, this]
theorem index1_hit (c : UInt8) (y x : List UInt8) (h : c ∉ x) : Lib.index (x ++ c :: y) [c] = (x.length : Int) := by
 induction x with
 | nil => simp [Lib.index, List.isPrefixOf]
 | cons b l ih =>
  have hb : (c == b) = false := by rw [beq_eq_false_iff_ne]; intro e; exact h (e ▸ List.mem_cons_self)
  have := ih (fun hm => h (List.mem_cons_of_mem _ hm))
  have h0 : ¬ ((l.length : Int) = -1) := by omega
  simp [Lib.index, List.isPrefixOf, hb, this, h0]
theorem cut1_miss (c : UInt8) (l : List UInt8) (h : c ∉ l) : Lib.cut l [c] = (l, [], false) := by
 unfold Lib.cut; rw [index1_miss c l h, if_neg (by omega)]
theorem cut1_hit (c : UInt8) (x y : List UInt8) (h : c ∉ x) : Lib.cut (x ++ c :: y) [c] = (x, y, true) := by
 unfold Lib.cut; rw [index1_hit c y x h, if_pos (by omega), Int.toNat_natCast, List.take_left]
 have : (x ++ c :: y).drop (x.length + [c].length) = y := by
  rw [List.length_singleton, ← List.drop_drop, List.drop_left]; rfl
 rw [this]
def parT (p : List UInt8 × List UInt8) : List UInt8 := p.1 ++ if p.2 = [] then [] else 61 :: p.2
def paramsT : PL → List UInt8
 | [] => []
 | p :: l => 32 :: (parT p ++ paramsT l)
theorem name_no (c : UInt8) (h : nameByte c = true) : c ≠ 32 ∧ c ≠ 61 ∧ upper c = c := by
 have := bytes_all (fun c => !nameByte c || (c != 32 && c != 61 && upper c == c)) (by decide +kernel) c
 simp only [h, Bool.not_true, Bool.false_or, Bool.and_eq_true, bne_iff_ne, ne_eq, beq_iff_eq] at this
 exact ⟨this.1.1, this.1.2, this.2⟩
theorem val_no (c : UInt8) (h : valByte c = true) : c ≠ 32 ∧ c ≠ 61 := by
 have := bytes_all (fun c => !valByte c || (c != 32 && c != 61)) (by decide +kernel) c
 simp only [h, Bool.not_true, Bool.false_or, Bool.and_eq_true, bne_iff_ne, ne_eq] at this
 exact this
theorem par_name (n v : List UInt8) (h : paramOk n v = true) : n ≠ [] ∧ (∀ c ∈ n, c ≠ 32 ∧ c ≠ 61) ∧ n.map upper = n ∧ ∀ c ∈ v, c ≠ 32 ∧ c ≠ 61 := by
 unfold paramOk pnameOk at h
 simp only [Bool.and_eq_true, decide_eq_true_eq] at h
 obtain ⟨⟨⟨⟨h1, h2⟩, h3⟩, h4⟩, h5⟩ := h
 refine ⟨fun e => by rw [e] at h1; simp at h1, fun c hc => ⟨(name_no c (List.all_eq_true.1 h4 c hc)).1, (name_no c (List.all_eq_true.1 h4 c hc)).2.1⟩, ?_, fun c hc => val_no c (List.all_eq_true.1 h5 c hc)⟩
 conv => rhs; rw [← List.map_id n]
 exact List.map_congr_left fun c hc => (name_no c (List.all_eq_true.1 h4 c hc)).2.2
theorem parT_mem (p : List UInt8 × List UInt8) (h : paramOk p.1 p.2 = true) : 32 ∉ parT p := by
 obtain ⟨_, h1, _, h2⟩ := par_name _ _ h
 unfold parT
 intro hm
 rcases List.mem_append.1 hm with hm | hm
 ·exact (h1 _ hm).1 rfl
 ·split at hm
  ·simp at hm
  ·rcases List.mem_cons.1 hm with e | hm
   ·exact absurd e (by decide)
   ·exact (h2 _ hm).1 rfl
theorem parT_cut (p : List UInt8 × List UInt8) (h : paramOk p.1 p.2 = true) : Lib.cut (parT p) [61] = (p.1, p.2, !p.2.isEmpty) := by
 obtain ⟨_, h1, _, h2⟩ := par_name _ _ h
 unfold parT
 by_cases hv : p.2 = []
 ·rw [if_pos hv, List.append_nil, cut1_miss 61 _ (fun hm => (h1 _ hm).2 rfl), hv]; rfl
 ·rw [if_neg hv, cut1_hit 61 _ _ (fun hm => (h1 _ hm).2 rfl)]
  cases hp : p.2 with
  | nil => exact absurd hp hv
  | cons b r => rfl
def toldL : PL → List ((List UInt8 × List UInt8) × List UInt8)
 | [] => []
 | p :: l => (p, (paramsT l).tail) :: toldL l
theorem told_params : ∀ (l : PL) (k : Nat), (∀ p ∈ l, paramOk p.1 p.2 = true) → l.length ≤ k → toldF k (paramsT l) = toldL l := by
 intro l
 induction l with
 | nil =>
  intro k _ _
  cases k with
  | zero => rfl
  | succ k => simp [toldF, paramsT, toldL]
 | cons p l ih =>
  intro k hp hk
  obtain ⟨k, rfl⟩ : ∃ j, k = j + 1 := ⟨k - 1, by simp at hk; omega⟩
  have hpp := hp p List.mem_cons_self
  have hrec := ih k (fun q hq => hp q (List.mem_cons_of_mem _ hq)) (by simpa using hk)
  obtain ⟨_, _, hup, _⟩ := par_name _ _ hpp
  have hne : paramsT (p :: l) ≠ [] := by simp [paramsT]
  have hpre : Lib.hasPrefix (paramsT (p :: l)) [32] = true := (hasPre_iff _ 32).2 ⟨_, rfl⟩
  have htrim : Lib.trimPrefix (paramsT (p :: l)) [32] = parT p ++ paramsT l := by
   unfold Lib.trimPrefix; rw [if_pos hpre]; rfl
  rw [toldF_succ k _ hne, hpre, htrim]
  have hcut : Lib.cut (parT p ++ paramsT l) [32] = (parT p, (paramsT l).tail, !l.isEmpty) := by
   cases l with
   | nil => simp only [paramsT, List.append_nil, List.tail_nil]; rw [cut1_miss 32 _ (parT_mem p hpp)]; rfl
   | cons q r => simp only [paramsT, List.tail_cons]; rw [cut1_hit 32 _ _ (parT_mem p hpp)]; rfl
  have hnext : (if (!l.isEmpty) = true then 32 :: (paramsT l).tail else (paramsT l).tail) = paramsT l := by
   cases l with
   | nil => rfl
   | cons q r => rfl
  rw [hcut, parT_cut p hpp]
  simp only []
  rw [hup, hpp, hnext, hrec]
  obtain ⟨pn, pv⟩ := p
  cases pv <;> simp [toldL]
theorem toldL_last (l : PL) : ∀ x, (toldL l).getLast? = some x → x.2 = [] := by
 induction l with
 | nil => intro x h; simp [toldL] at h
 | cons p l ih =>
  intro x h
  cases l with
  | nil => simp [toldL] at h; rw [← h]; rfl
  | cons q r =>
   refine ih x ?_
   simp only [toldL] at h ⊢
   rw [List.getLast?_cons_cons] at h
   exact h
theorem toldL_used (l : PL) : usedF (paramsT l).length (toldL l) = ((paramsT l).length : Int) := by
 unfold usedF
 cases h : (toldL l).getLast? with
 | none =>
  cases l with
  | nil => rfl
  | cons p r => simp [toldL] at h
 | some x => simp only; rw [toldL_last l x h]; simp
theorem params_end : ∀ l : PL, (∀ p ∈ l, paramOk p.1 p.2 = true) → l ≠ [] → ∃ r b, paramsT l = r ++ [b] ∧ b ≠ 32 := by
 intro l
 induction l with
 | nil => intro _ h; exact absurd rfl h
 | cons p l ih =>
  intro hp _
  cases l with
  | nil =>
   have hpp := hp p List.mem_cons_self
   have h32 := parT_mem p hpp
   have hne : parT p ≠ [] := by unfold parT; intro e; exact (par_name _ _ hpp).1 (List.append_eq_nil_iff.1 e).1
   refine ⟨32 :: (parT p).dropLast, (parT p).getLast hne, ?_, fun e => h32 (e ▸ List.getLast_mem hne)⟩
   simp only [paramsT, List.append_nil, List.cons_append]
   rw [List.dropLast_concat_getLast hne]
  | cons q r =>
   obtain ⟨z, b, hz, hb⟩ := ih (fun x hx => hp x (List.mem_cons_of_mem _ hx)) (by simp)
   refine ⟨32 :: (parT p ++ z), b, ?_, hb⟩
   show 32 :: (parT p ++ paramsT (q :: r)) = _
   rw [hz]; simp
theorem params_suf (l : PL) (hp : ∀ p ∈ l, paramOk p.1 p.2 = true) : Lib.hasSuffix (paramsT l) [32] = false := by
 rw [Bool.eq_false_iff]
 intro h
 obtain ⟨r, hr⟩ := (hasSuf_iff _ 32).1 h
 by_cases hl : l = []
 ·subst hl; simp [paramsT] at hr
 ·obtain ⟨z, b, hz, hb⟩ := params_end l hp hl
  rw [hz] at hr
  have := (List.append_inj' hr rfl).2
  simp at this
  exact hb this
theorem params_len (l : PL) : l.length ≤ (paramsT l).length := by
 induction l with
 | nil => simp
 | cons p l ih => simp [paramsT]; omega
theorem params_ok_mem (l : PL) (h : paramsOk l = true) : ∀ p ∈ l, paramOk p.1 p.2 = true := by
 intro p hp
 unfold paramsOk at h
 rw [Bool.and_eq_true] at h
 obtain ⟨i, hi, rfl⟩ := List.getElem_of_mem hp
 have := List.all_eq_true.1 h.1 i (List.mem_range.2 hi)
 unfold parAt at this
 rw [Bool.and_eq_true, List.getD_eq_getElem?_getD, List.getElem?_eq_getElem hi] at this
 exact this.1
theorem toldL_par (l : List S49) : (toldL (plOf l)).map toPar = l := by
 induction l with
 | nil => rfl
 | cons p l ih =>
  show toPar ((p.f0.data.toList, p.f1.data.toList), _) :: (toldL (plOf l)).map toPar = p :: l
  rw [ih]; rfl
def textL (v : Int) (a : List UInt8) (l : PL) : List UInt8 := (wordB v).data.toList ++ ((if v = 3 ∨ v = 4 then 60 :: (a ++ [62]) else a) ++ paramsT l)
theorem showP_data (l : List S49) : ∀ s : ByteArray, (l.foldl showP s).data.toList = s.data.toList ++ paramsT (plOf l) := by
 induction l with
 | nil => intro s; simp [plOf, paramsT]
 | cons p l ih =>
  intro s
  rw [List.foldl_cons, ih]
  have h1 : (showP s p).data.toList = s.data.toList ++ (32 :: parT (p.f0.data.toList, p.f1.data.toList)) := by
   unfold showP parT
   rw [Lib.toList_data]
   by_cases h : p.f1.data.toList = []
   ·rw [if_pos (by rw [h]; rfl), if_pos h]
    simp [ByteArray.data_append]
   ·have h' : ¬ p.f1.data.toList.isEmpty = true := by simpa using h
    rw [if_neg h', if_neg h]
    simp [ByteArray.data_append]
  rw [h1]
  show _ = s.data.toList ++ (32 :: (parT (p.f0.data.toList, p.f1.data.toList) ++ paramsT (plOf l)))
  simp
end Go.Proofs.YtljkopbalejcgaaDoor.P
end
section
set_option linter.unusedVariables false
set_option linter.unusedSimpArgs false
namespace Go.Proofs.YtljkopbalejcgaaDoor.P
open Go Go.RowKit Go.Lib Go.Proofs.YtljkopbalejcgaaDoorW.PrintWords
def mayC (v : Int) (a : List UInt8) (l : PL) : Bool :=
 if v = 1 then nameMay a && decide (l = []) else if v = 2 ∨ v = 5 ∨ v = 6 then decide (a = []) && decide (l = []) else
 if v = 3 then mayP a && paramsOk l else if v = 4 then (addrParse a).isSome && paramsOk l else false
theorem plOf_nil (l : List S49) : (((l.length : Int) == 0) : Bool) = decide (plOf l = []) := by
 cases l with
 | nil => rfl
 | cons p l => simp [plOf]; omega
theorem may_eq (k : Nat) (v : Int) (a : ByteArray) (l : List S49) (ha : a.size ≤ 1000000) (hl : plSmall l = true) : cmd_May.f (k + 1) v a l = some (mayC v a.data.toList (plOf l)) := by
 have hp : cmd_params.f l = some (paramsOk (plOf l)) := by unfold cmd_params.f; rw [if_pos hl]
 unfold mayC
 by_cases h1 : v = 1
 ·subst h1
  unfold cmd_May.f
  rw [if_pos rfl, if_pos rfl, plOf_nil]
  unfold name_May.f
  rw [if_pos (by omega)]
  simp only [Option.bind_some]
  cases nameMay a.data.toList <;> simp
 by_cases h2 : v = 2
 ·subst h2
  unfold cmd_May.f
  rw [if_neg (by omega), if_pos rfl, if_neg (by omega), if_pos (.inl rfl), cmd_May.j0, if_pos (by decide), Lib.toList_data, plOf_nil]
  by_cases ha0 : a.data.toList = [] <;> simp [ha0]
 by_cases h5 : v = 5
 ·subst h5
  unfold cmd_May.f
  rw [if_neg (by omega), if_neg (by omega), if_pos rfl, if_neg (by omega), if_pos (.inr (.inl rfl)), cmd_May.j0, if_pos (by decide), Lib.toList_data, plOf_nil]
  by_cases ha0 : a.data.toList = [] <;> simp [ha0]
 by_cases h6 : v = 6
 ·subst h6
  unfold cmd_May.f
  rw [if_neg (by omega), if_neg (by omega), if_neg (by omega), if_neg (by omega), if_pos (.inr (.inr rfl)), cmd_May.j0, if_pos (by decide), Lib.toList_data, plOf_nil]
  by_cases ha0 : a.data.toList = [] <;> simp [ha0]
 rw [if_neg h1, if_neg (by omega)]
 by_cases h3 : v = 3
 ·subst h3
  rw [if_pos rfl, cmdMay_3 k a ha l _ hp]; rfl
 rw [if_neg h3]
 by_cases h4 : v = 4
 ·subst h4
  rw [if_pos rfl, cmdMay_4 k a ha l _ hp]
 rw [if_neg h4]
 unfold cmd_May.f
 rw [if_neg h1, if_neg h2, if_neg h5, cmd_May.j0, if_neg (by simpa using h6), if_neg h3, if_neg h4]
theorem mayC_verb (v : Int) (a : List UInt8) (l : PL) (h : mayC v a l = true) : v = 1 ∨ v = 2 ∨ v = 3 ∨ v = 4 ∨ v = 5 ∨ v = 6 := by
 unfold mayC at h
 split at h
 ·omega
 ·split at h
  ·omega
  ·split at h
   ·omega
   ·split at h
    ·omega
    ·simp at h
theorem mayC_path (v : Int) (a : List UInt8) (l : PL) (hv : v = 3 ∨ v = 4) (h : mayC v a l = true) : mayP a = true ∧ paramsOk l = true := by
 unfold mayC at h
 rcases hv with rfl | rfl
 ·rw [if_neg (by omega), if_neg (by omega), if_pos rfl, Bool.and_eq_true] at h; exact h
 ·rw [if_neg (by omega), if_neg (by omega), if_neg (by omega), if_pos rfl, Bool.and_eq_true] at h
  exact ⟨by unfold mayP; rw [h.1]; simp, h.2⟩
theorem mayC_bare (v : Int) (a : List UInt8) (l : PL) (hv : ¬ (v = 3 ∨ v = 4)) (h : mayC v a l = true) : l = [] := by
 unfold mayC at h
 split at h
 ·rw [Bool.and_eq_true, decide_eq_true_eq] at h; exact h.2
 ·split at h
  ·rw [Bool.and_eq_true, decide_eq_true_eq, decide_eq_true_eq] at h; exact h.2
  ·rw [if_neg (by omega), if_neg (by omega)] at h; simp at h
def textB (v : Int) (a : ByteArray) (l : List S49) : ByteArray := l.foldl showP (wordB v ++ if v = 3 ∨ v = 4 then ((⟨#[60]⟩ : ByteArray) ++ a) ++ (⟨#[62]⟩ : ByteArray) else a)
theorem textB_data (v : Int) (a : ByteArray) (l : List S49) : (textB v a l).data.toList = textL v a.data.toList (plOf l) := by
 unfold textB textL
 rw [showP_data, ByteArray.data_append, Array.toList_append, List.append_assoc]
 by_cases h : v = 3 ∨ v = 4
 ·rw [if_pos h, if_pos h]; simp [ByteArray.data_append]
 ·rw [if_neg h, if_neg h]
theorem textB_size (v : Int) (a : ByteArray) (l : List S49) : (textB v a l).size = (textL v a.data.toList (plOf l)).length := by rw [← len_eq, textB_data]
theorem show_eq (v : Int) (a : ByteArray) (l : List S49) (ha : a.size ≤ 1000000) (hl : plSmall l = true) (hn : l.length ≤ 1000) :
  cmd_Show.f v a l = some (if mayC v a.data.toList (plOf l) = true then (if 510 < ((textB v a l).size : Int) then (⟨#[]⟩, 40) else (textB v a l, 0)) else (⟨#[]⟩, 4)) := by
 unfold cmd_Show.f
 rw [if_pos ⟨hn, hl, by omega⟩, may_eq 0 v a l ha hl]
 simp only [Option.bind_some]
 cases hm : mayC v a.data.toList (plOf l) with
 | false => rfl
 | true =>
  rw [if_pos rfl, if_pos rfl]
  have e1 : (⟨#[60]⟩ : ByteArray).size = 1 := rfl
  have e2 : (⟨#[62]⟩ : ByteArray).size = 1 := rfl
  unfold textB
  by_cases hv : v = 3 ∨ v = 4
  ·have hp := (mayC_path v _ _ hv hm).1
   have hp' : a.data.toList = [] ∨ (addrParse a.data.toList).isSome = true := by unfold mayP at hp; rw [Bool.or_eq_true, decide_eq_true_eq] at hp; exact hp
   rw [if_pos hv, if_pos hv, addrPath_eq a ha, if_pos hp']
   simp only [Option.bind_some]
   rw [if_pos (by simp only [ByteArray.size_append, e1, e2]; omega)]
  ·rw [if_neg hv, if_neg hv]
   simp only [Option.bind_some]
   rw [if_pos (by omega)]
theorem find_verb (p : Int → Bool) (v : Int) (hv : v = 1 ∨ v = 2 ∨ v = 3 ∨ v = 4 ∨ v = 5 ∨ v = 6) (h : p v = true) (hu : ∀ v', (v' = 1 ∨ v' = 2 ∨ v' = 3 ∨ v' = 4 ∨ v' = 5 ∨ v' = 6) → p v' = true → v' = v) : ([1, 2, 3, 4, 5, 6] : List Int).find? p = some v := by
 have hf : ∀ v', (v' = 1 ∨ v' = 2 ∨ v' = 3 ∨ v' = 4 ∨ v' = 5 ∨ v' = 6) → v' ≠ v → p v' = false := fun v' h1 h2 => by
  rw [Bool.eq_false_iff]; intro h3; exact h2 (hu v' h1 h3)
 have f1 := hf 1 (by omega)
 have f2 := hf 2 (by omega)
 have f3 := hf 3 (by omega)
 have f4 := hf 4 (by omega)
 have f5 := hf 5 (by omega)
 have f6 := hf 6 (by omega)
 rcases hv with rfl | rfl | rfl | rfl | rfl | rfl <;> simp_all [List.find?]
theorem parse_gen (t : ByteArray) (v : Int) (hv : v = 1 ∨ v = 2 ∨ v = 3 ∨ v = 4 ∨ v = 5 ∨ v = 6) (w rest : List UInt8) (ht : t.data.toList = w ++ rest) (hw : w.map upper = (wordB v).data.toList) (hs : t.size ≤ 510) : cmd_Parse.f t = tryV v ⟨rest.toArray⟩ := by
 have hm : parMatch t v = true := by
  unfold parMatch Lib.hasPrefix
  rw [ht, List.map_append, hw, List.isPrefixOf_iff_prefix]
  exact ⟨_, rfl⟩
 unfold cmd_Parse.f
 rw [if_neg (by omega), find_verb (fun v => parMatch t v) v hv hm (fun v' h1 h2 => parMatch_one t v' v h1 hv h2 hm)]
 simp only
 congr 1
 refine ba_ext ?_
 unfold argOf
 have hwl : w.length = (wordB v).size := by rw [← len_eq, ← hw, List.length_map]
 rw [Lib.extract_data, ht, ← hwl, List.drop_left, List.take_of_length_le]
 have := congrArg List.length ht
 rw [len_eq, List.length_append] at this
 omega
theorem mk_size (l : List UInt8) : (⟨l.toArray⟩ : ByteArray).size = l.length := by show l.toArray.size = _; simp
def restL (v : Int) (a : List UInt8) (l : PL) : List UInt8 := (if v = 3 ∨ v = 4 then 60 :: (a ++ [62]) else a) ++ paramsT l
theorem try_back (v : Int) (a : ByteArray) (l : List S49) (hl : plSmall l = true) (hm : mayC v a.data.toList (plOf l) = true) (hs : (restL v a.data.toList (plOf l)).length ≤ 510) : tryV v ⟨(restL v a.data.toList (plOf l)).toArray⟩ = some (v, a, l, 0) := by
 unfold tryV
 by_cases hv : v = 3 ∨ v = 4
 ·obtain ⟨hp, hpo⟩ := mayC_path v _ _ hv hm
  have hmem := params_ok_mem _ hpo
  have hr : restL v a.data.toList (plOf l) = 60 :: (a.data.toList ++ 62 :: paramsT (plOf l)) := by unfold restL; rw [if_pos hv]; simp
  rw [hr] at hs ⊢
  have hps : (paramsT (plOf l)).length ≤ 510 := by simp at hs; omega
  have has : a.size ≤ 1000000 := by simp at hs; omega
  rw [if_pos hv, path_eq _ (by rw [mk_size]; omega)]
  simp only [Option.bind_some]
  rw [path_mk _ _ hp]
  simp only []
  rw [mk_size, if_neg (by omega), if_pos trivial]
  rw [told_params _ _ hmem (params_len _), toldL_used, params_suf _ hmem, toldL_par]
  have ea : (⟨a.data.toList.toArray⟩ : ByteArray) = a := ba_ext (by simp)
  rw [if_neg (by simp), ea, may_eq 0 v a l has hl, hm]
  rfl
 ·have hn := mayC_bare v _ _ hv hm
  have hl0 : l = [] := by cases l with
   | nil => rfl
   | cons p l => simp [plOf] at hn
  subst hl0
  have hr : restL v a.data.toList (plOf []) = a.data.toList := by unfold restL; rw [if_neg hv]; simp [plOf, paramsT]
  rw [hr] at hs ⊢
  have ea : (⟨a.data.toList.toArray⟩ : ByteArray) = a := ba_ext (by simp)
  rw [if_neg hv, ea, may_eq 0 v a [] (by rw [← len_eq]; omega) hl, hm]
  rfl
theorem word_up (v : Int) : (wordB v).data.toList.map upper = (wordB v).data.toList := by
 unfold wordB
 repeat' split
 all_goals decide
theorem parse_back (t : ByteArray) (v : Int) (a : ByteArray) (l : List S49) (w : List UInt8) (hl : plSmall l = true) (hm : mayC v a.data.toList (plOf l) = true) (hs : t.size ≤ 510) (hw : w.map upper = (wordB v).data.toList) (ht : t.data.toList = w ++ restL v a.data.toList (plOf l)) :
  cmd_Parse.f t = some (v, a, l, 0) := by
 rw [parse_gen t v (mayC_verb v _ _ hm) w _ ht hw hs]
 refine try_back v a l hl hm ?_
 have := congrArg List.length ht
 rw [len_eq, List.length_append] at this
 omega
theorem parse_show (v : Int) (a : ByteArray) (l : List S49) (hl : plSmall l = true) (hm : mayC v a.data.toList (plOf l) = true) (hs : (textB v a l).size ≤ 510) : cmd_Parse.f (textB v a l) = some (v, a, l, 0) :=
 parse_back _ v a l _ hl hm hs (word_up v) (textB_data v a l)
end Go.Proofs.YtljkopbalejcgaaDoor.P
end
section
namespace Go.Proofs.YtljkopbalejcgaaDoor.P
open Go.RowKit Go.Proofs.YtljkopbalejcgaaDoorW.PrintWords Go.Proofs.YtljkopbalejcgaaDoorW.PrintLast Go.Proofs.YtljkopbalejcgaaDoorW.PrintMore
attribute [local go_sem] max2_int min2_int max_two min_two max_three min_three max_four min_four
set_option linter.unusedVariables false
set_option linter.unusedSimpArgs false
def mailroomlaw07_shown.f (a0_0 : Int) (a0_1 : ByteArray) (l0_2 : List (S49)) (a1 : Int) : Option (ByteArray) := (cmd_Show.f a0_0 a0_1 l0_2).bind fun bt112 => (if a1 = 0 then (if bt112.2 = 0 then (some bt112.1) else (some (⟨#[]⟩ : ByteArray))) else (some (⟨#[]⟩ : ByteArray)))
set_option maxHeartbeats 8000000 in
set_option maxRecDepth 100000 in
theorem mailroomlaw07_shown.calls (a0_0 : Int) (a0_1 : ByteArray) (A0_2 : Option Addr) (c0_2 : Nat) (l0_2 : List (S49)) (a1 : Int) (r : ByteArray) (w : World) (hr0_2 : Kd.C k49 w A0_2 l0_2.length l0_2) (hc0_2 : l0_2.length ≤ c0_2) (h : mailroomlaw07_shown.f a0_0 a0_1 l0_2 a1 = some r) :
  Calls Tryd.prog 10 #[.agg #[.int .u8 a0_0, .string a0_1, .slice A0_2 l0_2.length c0_2], .int .i64 a1] w fun e w' => e = .returned (.string r) ∧ Below w.heap.size w w' := by
 have hu27 := Tryd.underlying27
 have HR0_2 := Aside0.mk hr0_2
 have HC0_2 := Aside0.mk hc0_2
 clear hr0_2 hc0_2
 have HB := Aside0.mk (Below.refl w.heap.size w)
 have H : ((cmd_Show.f a0_0 a0_1 l0_2).bind fun bt112 => (if a1 = 0 then (if bt112.2 = 0 then (some bt112.1) else (some (⟨#[]⟩ : ByteArray))) else (some (⟨#[]⟩ : ByteArray)))) = some r := h
 clear h
 replace H := Option.bind_eq_some_iff.mp H
 obtain ⟨⟨t112, t113⟩, A30, H⟩ := H
 replace H : (if a1 = 0 then (if t113 = 0 then (some t112) else (some (⟨#[]⟩ : ByteArray))) else (some (⟨#[]⟩ : ByteArray))) = some r := H
 have A3 := Aside0.mk A30
 clear A30
 by_cases c4 : a1 = 0
 ·rw [if_pos c4] at H
  have c4b0 : (a1 == 0) = true := beq_iff_eq.mpr c4
  have c4b1 : (a1 != 0) = false := bne_eq_false_iff_eq.mpr c4
  clear c4
  by_cases c5 : t113 = 0
  ·rw [if_pos c5] at H
   have c5b0 : (t113 == 0) = true := beq_iff_eq.mpr c5
   have c5b1 : (t113 != 0) = false := bne_eq_false_iff_eq.mpr c5
   clear c5
   obtain rfl := Option.some.inj H
   go_enter Tryd.func10, Tryd.ntmps10
   go_wp2_with (first | ((with_reducible refine gate_dst (N := 2) rfl ?_); refine box_event ?hg (N := 2) ?hd (cs := #[.int .u8 a0_0, .string a0_1, .slice A0_2 l0_2.length c0_2]) (t := 27) ?hr ?_; (case hd => rfl); (case hg => rfl); (case hr => first | (go_simp; done) | (go_simp; rfl)); intro gb111 hg w6 hbox hb; have n0_ := Aside0.mk (below_step (by repeat (first | (with_reducible first | exact HB.out | apply below_alloc | apply pw_below_drewN | apply below_drew1) | exact HB.out)) hb); have n1_ := Aside0.mk (hbox); have n2_ := Aside0.mk ((by rw [hg]; exact (below_size (by repeat (first | (with_reducible first | exact HB.out | apply below_alloc | apply pw_below_drewN | apply below_drew1) | exact HB.out))) : w.heap.size ≤ gb111)); have n3_ := Aside0.mk ((by rw [hg]; exact (below_size (by repeat (first | (with_reducible first | exact HB.out | apply below_alloc | apply pw_below_drewN | apply below_drew1) | exact HB.out))) : w.heap.size ≤ gb111)); clear HB; have HB := n0_; have BK111 := n1_; have GW111 := n2_; have GE111 := n3_; clear n0_ n1_ n2_ n3_; clear hb hbox hg; have hcz7_0 : w6.cell? ⟨gb111, 0, none⟩ = some (.int .u8 a0_0) := (blk_cell BK111.out 0).trans rfl; have hcz7_1 : w6.cell? ⟨gb111, 1, none⟩ = some (.string a0_1) := (blk_cell BK111.out 1).trans rfl; have hcz7_2 : w6.cell? ⟨gb111, 2, none⟩ = some (.slice A0_2 l0_2.length c0_2) := (blk_cell BK111.out 2).trans rfl; have hfz7_0 := blk_frozen BK111.out 0; have hfz7_1 := blk_frozen BK111.out 1; have hfz7_2 := blk_frozen BK111.out 2) | ((with_reducible refine gate_callee (f := 13) rfl ?_); refine goesL_ (some 9) rfl rfl Tryd.func13 (by kernel_rfl) rfl #[.agg #[.int .u8 a0_0, .string a0_1, .slice A0_2 l0_2.length c0_2]] rfl (by (try simp only [List.map_toArray, List.map_cons, List.map_nil]); first | done | rfl | (simp only [List.length_drop, List.length_take]; rfl)) ?_; (with_reducible refine (cmd_Show.calls a0_0 a0_1 _ _ l0_2 t112 t113 _ ?side1 ?side2 A3.out).mono ?_); (case side1 => repeat (first | exact (Kd.C_below HR0_2.out HB.out) | (with_reducible refine Kd.C_alloc ?_ _) | (with_reducible refine Kd.C_drewN ?_ _) | (with_reducible refine Kd.C_drew ?_))); (case side2 => exact HC0_2.out); rintro e w8 ⟨rfl, hb⟩; refine ⟨_, rfl, ?_⟩; have n0_ := Aside0.mk (blk_below (g := gb111) (o := .cells #[.int .u8 a0_0, .string a0_1, .slice A0_2 l0_2.length c0_2] 27 (0, 0)) (by (with_reducible repeat (first | refine blk_drewN ?_ _ | refine blk_drew ?_ | refine blk_alloc ?_ _)); exact BK111.out) hb); have n1_ := Aside0.mk (below_step (by repeat (first | (with_reducible first | exact HB.out | apply below_alloc | apply pw_below_drewN | apply below_drew1 | refine below_set ?_ GE111.out) | exact HB.out)) hb); clear BK111; clear HB; have BK111 := n0_; have HB := n1_; clear n0_ n1_; (try clear hb); (try clear hb2); (try clear hk); (try clear hi)))
   go_ret
   exact ⟨by first | rfl | (simp [errW_none, errW_some] <;> rfl) | (simp [*, errW_none, errW_some] <;> rfl), by repeat (first | (with_reducible first | exact HB.out | apply below_alloc | apply pw_below_drewN | apply below_drew1 | refine below_set ?_ GE111.out) | exact HB.out)⟩
  ·rw [if_neg c5] at H
   have c5b0 : (t113 == 0) = false := beq_eq_false_iff_ne.mpr c5
   have c5b1 : (t113 != 0) = true := bne_iff_ne.mpr c5
   obtain rfl := Option.some.inj H
   go_enter Tryd.func10, Tryd.ntmps10
   go_wp2_with (first | ((with_reducible refine gate_dst (N := 2) rfl ?_); refine box_event ?hg (N := 2) ?hd (cs := #[.int .u8 a0_0, .string a0_1, .slice A0_2 l0_2.length c0_2]) (t := 27) ?hr ?_; (case hd => rfl); (case hg => rfl); (case hr => first | (go_simp; done) | (go_simp; rfl)); intro gb111 hg w9 hbox hb; have n0_ := Aside0.mk (below_step (by repeat (first | (with_reducible first | exact HB.out | apply below_alloc | apply pw_below_drewN | apply below_drew1) | exact HB.out)) hb); have n1_ := Aside0.mk (hbox); have n2_ := Aside0.mk ((by rw [hg]; exact (below_size (by repeat (first | (with_reducible first | exact HB.out | apply below_alloc | apply pw_below_drewN | apply below_drew1) | exact HB.out))) : w.heap.size ≤ gb111)); have n3_ := Aside0.mk ((by rw [hg]; exact (below_size (by repeat (first | (with_reducible first | exact HB.out | apply below_alloc | apply pw_below_drewN | apply below_drew1) | exact HB.out))) : w.heap.size ≤ gb111)); clear HB; have HB := n0_; have BK111 := n1_; have GW111 := n2_; have GE111 := n3_; clear n0_ n1_ n2_ n3_; clear hb hbox hg; have hcz10_0 : w9.cell? ⟨gb111, 0, none⟩ = some (.int .u8 a0_0) := (blk_cell BK111.out 0).trans rfl; have hcz10_1 : w9.cell? ⟨gb111, 1, none⟩ = some (.string a0_1) := (blk_cell BK111.out 1).trans rfl; have hcz10_2 : w9.cell? ⟨gb111, 2, none⟩ = some (.slice A0_2 l0_2.length c0_2) := (blk_cell BK111.out 2).trans rfl; have hfz10_0 := blk_frozen BK111.out 0; have hfz10_1 := blk_frozen BK111.out 1; have hfz10_2 := blk_frozen BK111.out 2) | ((with_reducible refine gate_callee (f := 13) rfl ?_); refine goesL_ (some 9) rfl rfl Tryd.func13 (by kernel_rfl) rfl #[.agg #[.int .u8 a0_0, .string a0_1, .slice A0_2 l0_2.length c0_2]] rfl (by (try simp only [List.map_toArray, List.map_cons, List.map_nil]); first | done | rfl | (simp only [List.length_drop, List.length_take]; rfl)) ?_; (with_reducible refine (cmd_Show.calls a0_0 a0_1 _ _ l0_2 t112 t113 _ ?side1 ?side2 A3.out).mono ?_); (case side1 => repeat (first | exact (Kd.C_below HR0_2.out HB.out) | (with_reducible refine Kd.C_alloc ?_ _) | (with_reducible refine Kd.C_drewN ?_ _) | (with_reducible refine Kd.C_drew ?_))); (case side2 => exact HC0_2.out); rintro e w11 ⟨rfl, hb⟩; refine ⟨_, rfl, ?_⟩; have n0_ := Aside0.mk (blk_below (g := gb111) (o := .cells #[.int .u8 a0_0, .string a0_1, .slice A0_2 l0_2.length c0_2] 27 (0, 0)) (by (with_reducible repeat (first | refine blk_drewN ?_ _ | refine blk_drew ?_ | refine blk_alloc ?_ _)); exact BK111.out) hb); have n1_ := Aside0.mk (below_step (by repeat (first | (with_reducible first | exact HB.out | apply below_alloc | apply pw_below_drewN | apply below_drew1 | refine below_set ?_ GE111.out) | exact HB.out)) hb); clear BK111; clear HB; have BK111 := n0_; have HB := n1_; clear n0_ n1_; (try clear hb); (try clear hb2); (try clear hk); (try clear hi)))
   go_ret
   exact ⟨by first | rfl | (simp [errW_none, errW_some] <;> rfl) | (simp [*, errW_none, errW_some] <;> rfl), by repeat (first | (with_reducible first | exact HB.out | apply below_alloc | apply pw_below_drewN | apply below_drew1 | refine below_set ?_ GE111.out) | exact HB.out)⟩
 ·rw [if_neg c4] at H
  have c4b0 : (a1 == 0) = false := beq_eq_false_iff_ne.mpr c4
  have c4b1 : (a1 != 0) = true := bne_iff_ne.mpr c4
  obtain rfl := Option.some.inj H
  go_enter Tryd.func10, Tryd.ntmps10
  go_wp2_with (first | ((with_reducible refine gate_dst (N := 2) rfl ?_); refine box_event ?hg (N := 2) ?hd (cs := #[.int .u8 a0_0, .string a0_1, .slice A0_2 l0_2.length c0_2]) (t := 27) ?hr ?_; (case hd => rfl); (case hg => rfl); (case hr => first | (go_simp; done) | (go_simp; rfl)); intro gb111 hg w12 hbox hb; have n0_ := Aside0.mk (below_step (by repeat (first | (with_reducible first | exact HB.out | apply below_alloc | apply pw_below_drewN | apply below_drew1) | exact HB.out)) hb); have n1_ := Aside0.mk (hbox); have n2_ := Aside0.mk ((by rw [hg]; exact (below_size (by repeat (first | (with_reducible first | exact HB.out | apply below_alloc | apply pw_below_drewN | apply below_drew1) | exact HB.out))) : w.heap.size ≤ gb111)); have n3_ := Aside0.mk ((by rw [hg]; exact (below_size (by repeat (first | (with_reducible first | exact HB.out | apply below_alloc | apply pw_below_drewN | apply below_drew1) | exact HB.out))) : w.heap.size ≤ gb111)); clear HB; have HB := n0_; have BK111 := n1_; have GW111 := n2_; have GE111 := n3_; clear n0_ n1_ n2_ n3_; clear hb hbox hg; have hcz13_0 : w12.cell? ⟨gb111, 0, none⟩ = some (.int .u8 a0_0) := (blk_cell BK111.out 0).trans rfl; have hcz13_1 : w12.cell? ⟨gb111, 1, none⟩ = some (.string a0_1) := (blk_cell BK111.out 1).trans rfl; have hcz13_2 : w12.cell? ⟨gb111, 2, none⟩ = some (.slice A0_2 l0_2.length c0_2) := (blk_cell BK111.out 2).trans rfl; have hfz13_0 := blk_frozen BK111.out 0; have hfz13_1 := blk_frozen BK111.out 1; have hfz13_2 := blk_frozen BK111.out 2) | ((with_reducible refine gate_callee (f := 13) rfl ?_); refine goesL_ (some 9) rfl rfl Tryd.func13 (by kernel_rfl) rfl #[.agg #[.int .u8 a0_0, .string a0_1, .slice A0_2 l0_2.length c0_2]] rfl (by (try simp only [List.map_toArray, List.map_cons, List.map_nil]); first | done | rfl | (simp only [List.length_drop, List.length_take]; rfl)) ?_; (with_reducible refine (cmd_Show.calls a0_0 a0_1 _ _ l0_2 t112 t113 _ ?side1 ?side2 A3.out).mono ?_); (case side1 => repeat (first | exact (Kd.C_below HR0_2.out HB.out) | (with_reducible refine Kd.C_alloc ?_ _) | (with_reducible refine Kd.C_drewN ?_ _) | (with_reducible refine Kd.C_drew ?_))); (case side2 => exact HC0_2.out); rintro e w14 ⟨rfl, hb⟩; refine ⟨_, rfl, ?_⟩; have n0_ := Aside0.mk (blk_below (g := gb111) (o := .cells #[.int .u8 a0_0, .string a0_1, .slice A0_2 l0_2.length c0_2] 27 (0, 0)) (by (with_reducible repeat (first | refine blk_drewN ?_ _ | refine blk_drew ?_ | refine blk_alloc ?_ _)); exact BK111.out) hb); have n1_ := Aside0.mk (below_step (by repeat (first | (with_reducible first | exact HB.out | apply below_alloc | apply pw_below_drewN | apply below_drew1 | refine below_set ?_ GE111.out) | exact HB.out)) hb); clear BK111; clear HB; have BK111 := n0_; have HB := n1_; clear n0_ n1_; (try clear hb); (try clear hb2); (try clear hk); (try clear hi)))
  go_ret
  exact ⟨by first | rfl | (simp [errW_none, errW_some] <;> rfl) | (simp [*, errW_none, errW_some] <;> rfl), by repeat (first | (with_reducible first | exact HB.out | apply below_alloc | apply pw_below_drewN | apply below_drew1 | refine below_set ?_ GE111.out) | exact HB.out)⟩
end Go.Proofs.YtljkopbalejcgaaDoor.P
end
section
namespace Go.Proofs.YtljkopbalejcgaaDoor.P
open Go.RowKit Go.Proofs.YtljkopbalejcgaaDoorW.PrintWords Go.Proofs.YtljkopbalejcgaaDoorW.PrintLast Go.Proofs.YtljkopbalejcgaaDoorW.PrintMore
attribute [local go_sem] max2_int min2_int max_two min_two max_three min_three max_four min_four
set_option linter.unusedVariables false
set_option linter.unusedSimpArgs false
def cmd_Rcpt.j0 : Nat → Bool → Int → ByteArray → Option (Int × ByteArray × (List (S49)) × Int)
 | 0, _, _, _ => none
 | k + 1, x15, x117000, x117001 => if x15 = true then ((some (([(⟨(⟨#[78, 79, 84, 73, 70, 89]⟩ : ByteArray), (⟨#[78, 69, 86, 69, 82]⟩ : ByteArray)⟩ : S49)] : List (S49)) : List (S49))).bind fun y117 => ((cmd_May.f k x117000 x117001 y117).bind fun t120 => (if t120 = true then (some (x117000, x117001, y117, 0)) else (some (0, (⟨#[]⟩ : ByteArray), ([] : List (S49)), 4))))) else ((cmd_May.f k x117000 x117001 ([] : List (S49))).bind fun t121 => (if t121 = true then (some (x117000, x117001, ([] : List (S49)), 0)) else (some (0, (⟨#[]⟩ : ByteArray), ([] : List (S49)), 4))))
def cmd_Rcpt.f (k : Nat) (a0 : ByteArray) (a1_0 : Bool) (a1_1 : Bool) (a1_2 : Bool) (a1_3 : Bool) (a1_4 : Bool) (a1_5 : Bool) (a1_6 : Int) (a2 : Bool) : Option (Int × ByteArray × (List (S49)) × Int) := if a1_3 = true then (cmd_Rcpt.j0 k a2 4 a0) else (cmd_Rcpt.j0 k false 4 a0)
theorem cmd_Rcpt.mono_l : ∀ k, (∀ y0 y1 y2, LeO (cmd_Rcpt.j0 k y0 y1 y2) (cmd_Rcpt.j0 (k + 1) y0 y1 y2))
 | 0 => fun _ _ _ r h => by simp [cmd_Rcpt.j0] at h
 | k + 1 => by
  have ih0 := cmd_Rcpt.mono_l k
  ·intro y0 y1 y2
   unfold cmd_Rcpt.j0
   repeat' first
   | (with_reducible exact ih0 _ _ _)
   | (with_reducible exact cmd_May.mono _ _ _ _)
   | (with_reducible exact LeO.refl _)
   | (with_reducible exact LeO.none _)
   | (with_reducible refine LeO.ite ?_ ?_)
   | (with_reducible refine LeO.bind ?_ (fun _ => ?_))
   | exact ih0 _ _ _
   | exact cmd_May.mono _ _ _ _
   | exact LeO.none _
   | refine LeO.ite ?_ ?_
   | refine LeO.bind ?_ (fun _ => ?_)
theorem cmd_Rcpt.mono : ∀ a0 a1 a2 a3 a4 a5 a6 a7 a8 k, LeO (cmd_Rcpt.f k a0 a1 a2 a3 a4 a5 a6 a7 a8) (cmd_Rcpt.f (k + 1) a0 a1 a2 a3 a4 a5 a6 a7 a8) := by
 intro a0 a1 a2 a3 a4 a5 a6 a7 a8 k
 have ih0 := cmd_Rcpt.mono_l k
 unfold cmd_Rcpt.f
 repeat' first
   | (with_reducible exact ih0 _ _ _)
   | (with_reducible exact cmd_May.mono _ _ _ _)
   | (with_reducible exact LeO.refl _)
   | (with_reducible exact LeO.none _)
   | (with_reducible refine LeO.ite ?_ ?_)
   | (with_reducible refine LeO.bind ?_ (fun _ => ?_))
   | exact ih0 _ _ _
   | exact cmd_May.mono _ _ _ _
   | exact LeO.none _
   | refine LeO.ite ?_ ?_
   | refine LeO.bind ?_ (fun _ => ?_)
set_option maxHeartbeats 8000000 in
set_option maxRecDepth 100000 in
theorem cmd_Rcpt.calls (k : Nat) (a0 : ByteArray) (a1_0 : Bool) (a1_1 : Bool) (a1_2 : Bool) (a1_3 : Bool) (a1_4 : Bool) (a1_5 : Bool) (a1_6 : Int) (a2 : Bool) (r1 : Int) (r2 : ByteArray) (r3 : List (S49)) (r4 : Int) (w : World) (h : cmd_Rcpt.f k a0 a1_0 a1_1 a1_2 a1_3 a1_4 a1_5 a1_6 a2 = some (r1, r2, r3, r4)) :
  Calls Tryd.prog 11 #[.string a0, .agg #[.bool a1_0, .bool a1_1, .bool a1_2, .bool a1_3, .bool a1_4, .bool a1_5, .int .i64 a1_6], .bool a2] w fun e w' => ∃ v2_ : Value, e = .returned (.tuple #[.agg #[.int .u8 r1, .string r2, v2_], .int .i64 r4]) ∧ Kd.R k49 49 w' w.heap.size (fun _ => True) v2_ r3 ∧ Below w.heap.size w w' := by
 have hu23 := Tryd.underlying23
 have hu27 := Tryd.underlying27
 have hu49 := Tryd.underlying49
 have HB := Aside0.mk (Below.refl w.heap.size w)
 have H : (if a1_3 = true then (cmd_Rcpt.j0 k a2 4 a0) else (cmd_Rcpt.j0 k false 4 a0)) = some (r1, r2, r3, r4) := h
 clear h
 have HC4 := Aside0.mk H
 clear H
 go_enter Tryd.func11, Tryd.ntmps11
 go_upto_region 2 with (first | ((with_reducible refine gate_dst (N := 4) rfl ?_); refine box_event ?hg (N := 4) ?hd (cs := #[.bool a1_0, .bool a1_1, .bool a1_2, .bool a1_3, .bool a1_4, .bool a1_5, .int .i64 a1_6]) (t := 23) ?hr ?_; (case hd => rfl); (case hg => rfl); (case hr => first | (go_simp; done) | (go_simp; rfl)); intro gb114 hg w5 hbox hb; have n0_ := Aside0.mk (below_step (by repeat (first | (with_reducible first | exact HB.out | apply below_alloc | apply pw_below_drewN | apply below_drew1) | exact HB.out)) hb); have n1_ := Aside0.mk (hbox); have n2_ := Aside0.mk ((by rw [hg]; exact (below_size (by repeat (first | (with_reducible first | exact HB.out | apply below_alloc | apply pw_below_drewN | apply below_drew1) | exact HB.out))) : w.heap.size ≤ gb114)); have n3_ := Aside0.mk ((by rw [hg]; exact (below_size (by repeat (first | (with_reducible first | exact HB.out | apply below_alloc | apply pw_below_drewN | apply below_drew1) | exact HB.out))) : w.heap.size ≤ gb114)); clear HB; have HB := n0_; have BK114 := n1_; have GW114 := n2_; have GE114 := n3_; clear n0_ n1_ n2_ n3_; clear hb hbox hg) | ((with_reducible refine gate_dst (N := 6) rfl ?_); refine box_event ?hg (N := 6) ?hd (cs := #[.int .u8 0, .string (⟨#[]⟩ : ByteArray), .slice none 0 0]) (t := 27) ?hr ?_; (case hd => rfl); (case hg => rfl); (case hr => first | (go_simp; done) | (go_simp; rfl)); intro gb115 hg w6 hbox hb; have n0_ := Aside0.mk (blk_below (g := gb114) (o := .cells #[.bool a1_0, .bool a1_1, .bool a1_2, .bool a1_3, .bool a1_4, .bool a1_5, .int .i64 a1_6] 23 (0, 0)) (by (with_reducible repeat (first | refine blk_drewN ?_ _ | refine blk_drew ?_ | refine blk_alloc ?_ _)); exact BK114.out) hb); have n1_ := Aside0.mk (below_step (by repeat (first | (with_reducible first | exact HB.out | apply below_alloc | apply pw_below_drewN | apply below_drew1 | refine below_set ?_ GE114.out) | exact HB.out)) hb); have n2_ := Aside0.mk (hbox); have n3_ := Aside0.mk ((by rw [hg]; exact (below_size (by repeat (first | (with_reducible first | exact HB.out | apply below_alloc | apply pw_below_drewN | apply below_drew1 | refine below_set ?_ GE114.out) | exact HB.out))) : w.heap.size ≤ gb115)); have n4_ := Aside0.mk ((by rw [hg]; exact (below_size (by repeat (first | (with_reducible first | exact HB.out | apply below_alloc | apply pw_below_drewN | apply below_drew1 | refine below_set ?_ GE114.out) | exact HB.out))) : w.heap.size ≤ gb115)); have n5_ := Aside0.mk ((by rw [hg]; exact Nat.ne_of_lt (blk_lt (g := gb114) (o := .cells #[.bool a1_0, .bool a1_1, .bool a1_2, .bool a1_3, .bool a1_4, .bool a1_5, .int .i64 a1_6] 23 (0, 0)) (by (with_reducible repeat (first | refine blk_drewN ?_ _ | refine blk_drew ?_ | refine blk_alloc ?_ _)); exact BK114.out)) : gb114 ≠ gb115)); have n6_ := Aside0.mk ((by rw [hg]; exact Nat.ne_of_gt (blk_lt (g := gb114) (o := .cells #[.bool a1_0, .bool a1_1, .bool a1_2, .bool a1_3, .bool a1_4, .bool a1_5, .int .i64 a1_6] 23 (0, 0)) (by (with_reducible repeat (first | refine blk_drewN ?_ _ | refine blk_drew ?_ | refine blk_alloc ?_ _)); exact BK114.out)) : gb115 ≠ gb114)); clear BK114; clear HB; have BK114 := n0_; have HB := n1_; have BK115 := n2_; have GW115 := n3_; have GE115 := n4_; have NB114_115 := n5_; have NB115_114 := n6_; clear n0_ n1_ n2_ n3_ n4_ n5_ n6_; clear hb hbox hg) | ((with_reducible refine gate_dst (N := 8) rfl ?_); refine box_event ?hg (N := 8) ?hd (cs := #[.int .u8 0, .string (⟨#[]⟩ : ByteArray), .slice none 0 0]) (t := 27) ?hr ?_; (case hd => rfl); (case hg => rfl); (case hr => first | (go_simp; done) | (go_simp; rfl)); intro gb116 hg w7 hbox hb; have n0_ := Aside0.mk (blk_below (g := gb114) (o := .cells #[.bool a1_0, .bool a1_1, .bool a1_2, .bool a1_3, .bool a1_4, .bool a1_5, .int .i64 a1_6] 23 (0, 0)) (by (with_reducible repeat (first | refine blk_drewN ?_ _ | refine blk_drew ?_ | refine blk_alloc ?_ _)); exact BK114.out) hb); have n1_ := Aside0.mk (blk_below (g := gb115) (o := .cells #[.int .u8 0, .string (⟨#[]⟩ : ByteArray), .slice none 0 0] 27 (0, 0)) (by (with_reducible repeat (first | refine blk_drewN ?_ _ | refine blk_drew ?_ | refine blk_alloc ?_ _)); exact BK115.out) hb); have n2_ := Aside0.mk (below_step (by repeat (first | (with_reducible first | exact HB.out | apply below_alloc | apply pw_below_drewN | apply below_drew1 | refine below_set ?_ GE114.out | refine below_set ?_ GE115.out) | exact HB.out)) hb); have n3_ := Aside0.mk (hbox); have n4_ := Aside0.mk ((by rw [hg]; exact (below_size (by repeat (first | (with_reducible first | exact HB.out | apply below_alloc | apply pw_below_drewN | apply below_drew1 | refine below_set ?_ GE114.out | refine below_set ?_ GE115.out) | exact HB.out))) : w.heap.size ≤ gb116)); have n5_ := Aside0.mk ((by rw [hg]; exact (below_size (by repeat (first | (with_reducible first | exact HB.out | apply below_alloc | apply pw_below_drewN | apply below_drew1 | refine below_set ?_ GE114.out | refine below_set ?_ GE115.out) | exact HB.out))) : w.heap.size ≤ gb116)); have n6_ := Aside0.mk ((by rw [hg]; exact Nat.ne_of_lt (blk_lt (g := gb114) (o := .cells #[.bool a1_0, .bool a1_1, .bool a1_2, .bool a1_3, .bool a1_4, .bool a1_5, .int .i64 a1_6] 23 (0, 0)) (by (with_reducible repeat (first | refine blk_drewN ?_ _ | refine blk_drew ?_ | refine blk_alloc ?_ _)); exact BK114.out)) : gb114 ≠ gb116)); have n7_ := Aside0.mk ((by rw [hg]; exact Nat.ne_of_gt (blk_lt (g := gb114) (o := .cells #[.bool a1_0, .bool a1_1, .bool a1_2, .bool a1_3, .bool a1_4, .bool a1_5, .int .i64 a1_6] 23 (0, 0)) (by (with_reducible repeat (first | refine blk_drewN ?_ _ | refine blk_drew ?_ | refine blk_alloc ?_ _)); exact BK114.out)) : gb116 ≠ gb114)); have n8_ := Aside0.mk ((by rw [hg]; exact Nat.ne_of_lt (blk_lt (g := gb115) (o := .cells #[.int .u8 0, .string (⟨#[]⟩ : ByteArray), .slice none 0 0] 27 (0, 0)) (by (with_reducible repeat (first | refine blk_drewN ?_ _ | refine blk_drew ?_ | refine blk_alloc ?_ _)); exact BK115.out)) : gb115 ≠ gb116)); have n9_ := Aside0.mk ((by rw [hg]; exact Nat.ne_of_gt (blk_lt (g := gb115) (o := .cells #[.int .u8 0, .string (⟨#[]⟩ : ByteArray), .slice none 0 0] 27 (0, 0)) (by (with_reducible repeat (first | refine blk_drewN ?_ _ | refine blk_drew ?_ | refine blk_alloc ?_ _)); exact BK115.out)) : gb116 ≠ gb115)); clear BK114; clear BK115; clear HB; have BK114 := n0_; have BK115 := n1_; have HB := n2_; have BK116 := n3_; have GW116 := n4_; have GE116 := n5_; have NB114_116 := n6_; have NB116_114 := n7_; have NB115_116 := n8_; have NB116_115 := n9_; clear n0_ n1_ n2_ n3_ n4_ n5_ n6_ n7_ n8_ n9_; clear hb hbox hg; have hnb8 := NB116_114.out; have hnc8 := NB114_116.out; have hnb9 := NB116_115.out; have hnc9 := NB115_116.out; have hcz10_0 : w7.cell? ⟨gb116, 0, none⟩ = some (.int .u8 0) := (blk_cell BK116.out 0).trans rfl; have hcz10_1 : w7.cell? ⟨gb116, 1, none⟩ = some (.string (⟨#[]⟩ : ByteArray)) := (blk_cell BK116.out 1).trans rfl; have hcz10_2 : w7.cell? ⟨gb116, 2, none⟩ = some (.slice none 0 0) := (blk_cell BK116.out 2).trans rfl; have hfz10_0 := blk_frozen BK116.out 0; have hfz10_1 := blk_frozen BK116.out 1; have hfz10_2 := blk_frozen BK116.out 2))
 (try simp only [Act.put, List.setIfInBounds_toArray, List.set_cons_zero, List.set_cons_succ])
 go_cut [15] (fun v15 wc => ∃ (kq : Nat) (x15_3 : Bool), v15 = .bool x15_3 ∧ Aside0 (cmd_Rcpt.j0 kq x15_3 4 a0 = some (r1, r2, r3, r4)) ∧ Aside0 (kq ≤ k) ∧ Aside0 (wc.heap[gb114]? = some (.cells #[.bool a1_0, .bool a1_1, .bool a1_2, .bool a1_3, .bool a1_4, .bool a1_5, .int .i64 a1_6] 23 (0, 0))) ∧ Aside0 (wc.heap[gb115]? = some (.cells #[.int .u8 0, .string (⟨#[]⟩ : ByteArray), (.slice none 0 0)] 27 (0, 0))) ∧ Aside0 (wc.heap[gb116]? = some (.cells #[.int .u8 4, .string a0, (.slice none 0 0)] 27 (0, 0))) ∧ Aside0 (Below w.heap.size w wc))
 case first =>
  have H := HC4.out
  clear HC4
  by_cases c11 : a1_3 = true
  ·subst c11
   have H1 : (cmd_Rcpt.j0 k a2 4 a0) = some (r1, r2, r3, r4) := by rw [if_pos rfl] at H; exact H
   clear H
   have H := H1
   clear H1
   have H' := Aside0.mk H
   clear H
   have hnb12 := NB114_115.out
   have hnc12 := NB115_114.out
   have hnb13 := NB114_116.out
   have hnc13 := NB116_114.out
   have hcz14_0 : w7.cell? ⟨gb114, 0, none⟩ = some (.bool a1_0) := (blk_cell BK114.out 0).trans rfl
   have hcz14_1 : w7.cell? ⟨gb114, 1, none⟩ = some (.bool a1_1) := (blk_cell BK114.out 1).trans rfl
   have hcz14_2 : w7.cell? ⟨gb114, 2, none⟩ = some (.bool a1_2) := (blk_cell BK114.out 2).trans rfl
   have hcz14_3 : w7.cell? ⟨gb114, 3, none⟩ = some (.bool true) := (blk_cell BK114.out 3).trans rfl
   have hcz14_4 : w7.cell? ⟨gb114, 4, none⟩ = some (.bool a1_4) := (blk_cell BK114.out 4).trans rfl
   have hcz14_5 : w7.cell? ⟨gb114, 5, none⟩ = some (.bool a1_5) := (blk_cell BK114.out 5).trans rfl
   have hcz14_6 : w7.cell? ⟨gb114, 6, none⟩ = some (.int .i64 a1_6) := (blk_cell BK114.out 6).trans rfl
   have hfz14_0 := blk_frozen BK114.out 0
   have hfz14_1 := blk_frozen BK114.out 1
   have hfz14_2 := blk_frozen BK114.out 2
   have hfz14_3 := blk_frozen BK114.out 3
   have hfz14_4 := blk_frozen BK114.out 4
   have hfz14_5 := blk_frozen BK114.out 5
   have hfz14_6 := blk_frozen BK114.out 6
   go_wp2
   go_meet
   case rel => exact ⟨_, (a2), (by first | rfl | (simp; done) | (simp [*]; done)), H', ⟨by first | omega | exact Nat.le_refl _⟩, ⟨by (with_reducible repeat (first | refine blk_drewN ?_ _ | refine blk_drew ?_ | refine blk_alloc ?_ _)); refine blk_far ?_ NB114_116.out _; (with_reducible repeat (first | refine blk_drewN ?_ _ | refine blk_drew ?_ | refine blk_alloc ?_ _)); refine blk_far ?_ NB114_116.out _; (with_reducible repeat (first | refine blk_drewN ?_ _ | refine blk_drew ?_ | refine blk_alloc ?_ _)); refine blk_far ?_ NB114_116.out _; (with_reducible repeat (first | refine blk_drewN ?_ _ | refine blk_drew ?_ | refine blk_alloc ?_ _)); exact BK114.out⟩, ⟨by (with_reducible repeat (first | refine blk_drewN ?_ _ | refine blk_drew ?_ | refine blk_alloc ?_ _)); refine blk_far ?_ NB115_116.out _; (with_reducible repeat (first | refine blk_drewN ?_ _ | refine blk_drew ?_ | refine blk_alloc ?_ _)); refine blk_far ?_ NB115_116.out _; (with_reducible repeat (first | refine blk_drewN ?_ _ | refine blk_drew ?_ | refine blk_alloc ?_ _)); refine blk_far ?_ NB115_116.out _; (with_reducible repeat (first | refine blk_drewN ?_ _ | refine blk_drew ?_ | refine blk_alloc ?_ _)); exact BK115.out⟩, ⟨by (with_reducible repeat (first | refine blk_drewN ?_ _ | refine blk_drew ?_ | refine blk_alloc ?_ _)); refine blk_put (cs := #[.int .u8 4, .string a0, .slice none 0 0]) ?_ 2 _ rfl; (with_reducible repeat (first | refine blk_drewN ?_ _ | refine blk_drew ?_ | refine blk_alloc ?_ _)); refine blk_put (cs := #[.int .u8 4, .string (⟨#[]⟩ : ByteArray), .slice none 0 0]) ?_ 1 _ rfl; (with_reducible repeat (first | refine blk_drewN ?_ _ | refine blk_drew ?_ | refine blk_alloc ?_ _)); refine blk_put (cs := #[.int .u8 0, .string (⟨#[]⟩ : ByteArray), .slice none 0 0]) ?_ 0 _ rfl; (with_reducible repeat (first | refine blk_drewN ?_ _ | refine blk_drew ?_ | refine blk_alloc ?_ _)); exact BK116.out⟩, ⟨by repeat (first | (with_reducible first | exact HB.out | apply below_alloc | apply pw_below_drewN | apply below_drew1 | refine below_set ?_ GE114.out | refine below_set ?_ GE115.out | refine below_set ?_ GE116.out) | exact HB.out)⟩⟩
  ·replace c11 := Bool.eq_false_iff.mpr c11
   subst c11
   have H1 : (cmd_Rcpt.j0 k false 4 a0) = some (r1, r2, r3, r4) := by rw [if_neg (show ¬ (false = true) by decide)] at H; exact H
   clear H
   have H := H1
   clear H1
   have H' := Aside0.mk H
   clear H
   have hnb15 := NB114_115.out
   have hnc15 := NB115_114.out
   have hnb16 := NB114_116.out
   have hnc16 := NB116_114.out
   have hcz17_0 : w7.cell? ⟨gb114, 0, none⟩ = some (.bool a1_0) := (blk_cell BK114.out 0).trans rfl
   have hcz17_1 : w7.cell? ⟨gb114, 1, none⟩ = some (.bool a1_1) := (blk_cell BK114.out 1).trans rfl
   have hcz17_2 : w7.cell? ⟨gb114, 2, none⟩ = some (.bool a1_2) := (blk_cell BK114.out 2).trans rfl
   have hcz17_3 : w7.cell? ⟨gb114, 3, none⟩ = some (.bool false) := (blk_cell BK114.out 3).trans rfl
   have hcz17_4 : w7.cell? ⟨gb114, 4, none⟩ = some (.bool a1_4) := (blk_cell BK114.out 4).trans rfl
   have hcz17_5 : w7.cell? ⟨gb114, 5, none⟩ = some (.bool a1_5) := (blk_cell BK114.out 5).trans rfl
   have hcz17_6 : w7.cell? ⟨gb114, 6, none⟩ = some (.int .i64 a1_6) := (blk_cell BK114.out 6).trans rfl
   have hfz17_0 := blk_frozen BK114.out 0
   have hfz17_1 := blk_frozen BK114.out 1
   have hfz17_2 := blk_frozen BK114.out 2
   have hfz17_3 := blk_frozen BK114.out 3
   have hfz17_4 := blk_frozen BK114.out 4
   have hfz17_5 := blk_frozen BK114.out 5
   have hfz17_6 := blk_frozen BK114.out 6
   go_wp2
   go_meet
   case rel => exact ⟨_, (false), (by first | rfl | (simp; done) | (simp [*]; done)), H', ⟨by first | omega | exact Nat.le_refl _⟩, ⟨by (with_reducible repeat (first | refine blk_drewN ?_ _ | refine blk_drew ?_ | refine blk_alloc ?_ _)); refine blk_far ?_ NB114_116.out _; (with_reducible repeat (first | refine blk_drewN ?_ _ | refine blk_drew ?_ | refine blk_alloc ?_ _)); refine blk_far ?_ NB114_116.out _; (with_reducible repeat (first | refine blk_drewN ?_ _ | refine blk_drew ?_ | refine blk_alloc ?_ _)); refine blk_far ?_ NB114_116.out _; (with_reducible repeat (first | refine blk_drewN ?_ _ | refine blk_drew ?_ | refine blk_alloc ?_ _)); exact BK114.out⟩, ⟨by (with_reducible repeat (first | refine blk_drewN ?_ _ | refine blk_drew ?_ | refine blk_alloc ?_ _)); refine blk_far ?_ NB115_116.out _; (with_reducible repeat (first | refine blk_drewN ?_ _ | refine blk_drew ?_ | refine blk_alloc ?_ _)); refine blk_far ?_ NB115_116.out _; (with_reducible repeat (first | refine blk_drewN ?_ _ | refine blk_drew ?_ | refine blk_alloc ?_ _)); refine blk_far ?_ NB115_116.out _; (with_reducible repeat (first | refine blk_drewN ?_ _ | refine blk_drew ?_ | refine blk_alloc ?_ _)); exact BK115.out⟩, ⟨by (with_reducible repeat (first | refine blk_drewN ?_ _ | refine blk_drew ?_ | refine blk_alloc ?_ _)); refine blk_put (cs := #[.int .u8 4, .string a0, .slice none 0 0]) ?_ 2 _ rfl; (with_reducible repeat (first | refine blk_drewN ?_ _ | refine blk_drew ?_ | refine blk_alloc ?_ _)); refine blk_put (cs := #[.int .u8 4, .string (⟨#[]⟩ : ByteArray), .slice none 0 0]) ?_ 1 _ rfl; (with_reducible repeat (first | refine blk_drewN ?_ _ | refine blk_drew ?_ | refine blk_alloc ?_ _)); refine blk_put (cs := #[.int .u8 0, .string (⟨#[]⟩ : ByteArray), .slice none 0 0]) ?_ 0 _ rfl; (with_reducible repeat (first | refine blk_drewN ?_ _ | refine blk_drew ?_ | refine blk_alloc ?_ _)); exact BK116.out⟩, ⟨by repeat (first | (with_reducible first | exact HB.out | apply below_alloc | apply pw_below_drewN | apply below_drew1 | refine below_set ?_ GE114.out | refine below_set ?_ GE115.out | refine below_set ?_ GE116.out) | exact HB.out)⟩⟩
 case rest =>
  clear HC4
  try clear c1
  try clear p2
  try clear c8
  try clear c9
  try clear c11
  try clear c12
  try clear c13
  try clear c15
  try clear c16
  try clear hcz10_0
  try clear hcz10_1
  try clear hcz10_2
  try clear hcz14_0
  try clear hcz14_1
  try clear hcz14_2
  try clear hcz14_3
  try clear hcz14_4
  try clear hcz14_5
  try clear hcz14_6
  try clear hcz17_0
  try clear hcz17_1
  try clear hcz17_2
  try clear hcz17_3
  try clear hcz17_4
  try clear hcz17_5
  try clear hcz17_6
  try clear hfz10_0
  try clear hfz10_1
  try clear hfz10_2
  try clear hfz14_0
  try clear hfz14_1
  try clear hfz14_2
  try clear hfz14_3
  try clear hfz14_4
  try clear hfz14_5
  try clear hfz14_6
  try clear hfz17_0
  try clear hfz17_1
  try clear hfz17_2
  try clear hfz17_3
  try clear hfz17_4
  try clear hfz17_5
  try clear hfz17_6
  obtain ⟨kq, x15_3, rfl, HA, HJ3, BK114, BK115, BK116, HB⟩ := hcut
  cases kq with
  | zero => exact absurd HA.out (by simp [cmd_Rcpt.j0])
  | succ kj3 =>
   have H := HA.out
   clear HA
   simp only [cmd_Rcpt.j0] at H
   by_cases c18 : x15_3 = true
   ·subst c18
    have H1 : ((some (([(⟨(⟨#[78, 79, 84, 73, 70, 89]⟩ : ByteArray), (⟨#[78, 69, 86, 69, 82]⟩ : ByteArray)⟩ : S49)] : List (S49)) : List (S49))).bind fun y117 => ((cmd_May.f kj3 4 a0 y117).bind fun t120 => (if t120 = true then (some (4, a0, y117, 0)) else (some (0, (⟨#[]⟩ : ByteArray), ([] : List (S49)), 4))))) = some (r1, r2, r3, r4) := by rw [if_pos rfl] at H; exact H
    clear H
    have H := H1
    clear H1
    obtain ⟨y117, hy117⟩ : ∃ y_ : List (S49), y_ = (([(⟨(⟨#[78, 79, 84, 73, 70, 89]⟩ : ByteArray), (⟨#[78, 69, 86, 69, 82]⟩ : ByteArray)⟩ : S49)] : List (S49))) := ⟨_, rfl⟩
    replace H : ((cmd_May.f kj3 4 a0 y117).bind fun t120 => (if t120 = true then (some (4, a0, y117, 0)) else (some (0, (⟨#[]⟩ : ByteArray), ([] : List (S49)), 4)))) = some (r1, r2, r3, r4) := by first | (rw [hy117]; with_reducible exact H) | (have H2_ := (Option.bind_some _ _).symm.trans H; rw [hy117]; with_reducible exact H2_) | (have H2_ := (Option.bind_some _ _).symm.trans H; with_reducible exact H2_) | with_reducible exact H | (rw [hy117]; exact H) | exact H
    have Ny117 := Aside0.mk hy117
    clear hy117
    replace H := Option.bind_eq_some_iff.mp H
    obtain ⟨t120, A190, H⟩ := H
    replace H : (if t120 = true then (some (4, a0, y117, 0)) else (some (0, (⟨#[]⟩ : ByteArray), ([] : List (S49)), 4))) = some (r1, r2, r3, r4) := H
    have A19 := Aside0.mk A190
    clear A190
    by_cases c20 : t120 = true
    ·subst c20
     have H1 : (some (4, a0, y117, 0)) = some (r1, r2, r3, r4) := by rw [if_pos rfl] at H; exact H
     clear H
     have H := H1
     clear H1
     simp only [Option.some.injEq, Prod.mk.injEq] at H
     obtain ⟨rfl, rfl, rfl, rfl⟩ := H
     go_wp2_with (first | ((with_reducible refine gate_dst (N := 17) rfl ?_); refine Kd.R_lit k49 _ 49 ?hg (N := 17) ?hd (xs := ([(⟨(⟨#[78, 79, 84, 73, 70, 89]⟩ : ByteArray), (⟨#[78, 69, 86, 69, 82]⟩ : ByteArray)⟩ : S49)] : List (S49))) (inner := [.string (⟨#[78, 79, 84, 73, 70, 89]⟩ : ByteArray), .string (⟨#[78, 69, 86, 69, 82]⟩ : ByteArray)]) (ok := fun _ => True) (okp := fun _ => True) ?hr ?hp (fun _ hk => hk) trivial (Below.refl _ _) (Nat.le_refl _) (by simp) ?_; (case hd => rfl); (case hg => rfl); (case hr => first | (go_simp; done) | (go_simp; rfl)); (case hp => exact (Reps.c2 (show Kd.M k49 _ _ _ (⟨(⟨#[78, 79, 84, 73, 70, 89]⟩ : ByteArray), (⟨#[78, 69, 86, 69, 82]⟩ : ByteArray)⟩ : S49) [.string (⟨#[78, 79, 84, 73, 70, 89]⟩ : ByteArray), .string (⟨#[78, 69, 86, 69, 82]⟩ : ByteArray)] from (k49_mkM _ _ _ (⟨(⟨#[78, 79, 84, 73, 70, 89]⟩ : ByteArray), (⟨#[78, 69, 86, 69, 82]⟩ : ByteArray)⟩ : S49) )) (Reps.none _ _))); intro v118 w21 ho22 hb hg_ hnew_; clear hg_ hnew_; (first | rw [← Ny117.out] at ho22 | (simp only [Int.reduceToNat] at ho22; rw [← Ny117.out] at ho22)); have n0_ := Aside0.mk (Kd.R_lower ho22 (below_size (by repeat (first | (with_reducible first | exact HB.out | apply below_alloc | apply pw_below_drewN | apply below_drew1 | refine below_set ?_ GE114.out | refine below_set ?_ GE115.out | refine below_set ?_ GE116.out) | exact HB.out)))); have n1_ := Aside0.mk (blk_below (g := gb114) (o := .cells #[.bool a1_0, .bool a1_1, .bool a1_2, .bool a1_3, .bool a1_4, .bool a1_5, .int .i64 a1_6] 23 (0, 0)) (by (with_reducible repeat (first | refine blk_drewN ?_ _ | refine blk_drew ?_ | refine blk_alloc ?_ _)); exact BK114.out) hb); have n2_ := Aside0.mk (blk_below (g := gb115) (o := .cells #[.int .u8 0, .string (⟨#[]⟩ : ByteArray), .slice none 0 0] 27 (0, 0)) (by (with_reducible repeat (first | refine blk_drewN ?_ _ | refine blk_drew ?_ | refine blk_alloc ?_ _)); exact BK115.out) hb); have n3_ := Aside0.mk (blk_below (g := gb116) (o := .cells #[.int .u8 4, .string a0, .slice none 0 0] 27 (0, 0)) (by (with_reducible repeat (first | refine blk_drewN ?_ _ | refine blk_drew ?_ | refine blk_alloc ?_ _)); exact BK116.out) hb); have n4_ := Aside0.mk (below_step (by repeat (first | (with_reducible first | exact HB.out | apply below_alloc | apply pw_below_drewN | apply below_drew1 | refine below_set ?_ GE114.out | refine below_set ?_ GE115.out | refine below_set ?_ GE116.out) | exact HB.out)) hb); clear BK114; clear BK115; clear BK116; clear HB; have HO119 := n0_; have BK114 := n1_; have BK115 := n2_; have BK116 := n3_; have HB := n4_; clear n0_ n1_ n2_ n3_ n4_; clear hb ho22; obtain ⟨Ao23, co23, eo23⟩ := Kd.R_slice HO119.out; subst eo23; have hnb24 := NB116_114.out; have hnc24 := NB114_116.out; have hnb25 := NB116_115.out; have hnc25 := NB115_116.out; have hcz26_0 : w21.cell? ⟨gb116, 0, none⟩ = some (.int .u8 4) := (blk_cell BK116.out 0).trans rfl; have hcz26_1 : w21.cell? ⟨gb116, 1, none⟩ = some (.string a0) := (blk_cell BK116.out 1).trans rfl; have hcz26_2 : w21.cell? ⟨gb116, 2, none⟩ = some (.slice none 0 0) := (blk_cell BK116.out 2).trans rfl; have hfz26_0 := blk_frozen BK116.out 0; have hfz26_1 := blk_frozen BK116.out 1; have hfz26_2 := blk_frozen BK116.out 2) | ((with_reducible refine gate_callee (f := 17) rfl ?_); refine goesL_ (some 20) rfl rfl Tryd.func17 (by kernel_rfl) rfl #[.agg #[.int .u8 4, .string a0, .slice Ao23 y117.length co23]] rfl (by (try simp only [List.map_toArray, List.map_cons, List.map_nil]); first | done | rfl | (simp only [List.length_drop, List.length_take]; rfl)) ?_; (with_reducible refine (cmd_May.calls kj3 4 a0 _ _ y117 true _ ?side1 ?side2 A19.out).mono ?_); (case side1 => refine (Kd.R_reads' (e := 49) (base := w.heap.size) (ok := fun k_ => True) (n := y117.length) (c := co23) ?_).2.2; exact (by (with_reducible repeat (first | apply Kd.R_alloc | apply Kd.R_drewN | apply Kd.R_drew)); exact (Kd.R_mono (Kd.R_far (p := ⟨gb116, 2, none⟩) (Kd.R_types HO119.out BK116.out (by decide)) (fun _ hk => hk.2) (.slice Ao23 y117.length co23)) (fun _ h_ => h_.1)))); (case side2 => exact (Kd.R_reads' HO119.out).2.1); rintro e w27 ⟨rfl, hb⟩; refine ⟨_, rfl, ?_⟩; have n0_ := Aside0.mk (Kd.R_below (by (with_reducible repeat (first | apply Kd.R_alloc | apply Kd.R_drewN | apply Kd.R_drew)); exact (Kd.R_mono (Kd.R_far (p := ⟨gb116, 2, none⟩) (Kd.R_types HO119.out BK116.out (by decide)) (fun _ hk => hk.2) (.slice Ao23 y117.length co23)) (fun _ h_ => h_.1))) hb); have n1_ := Aside0.mk (blk_below (g := gb114) (o := .cells #[.bool a1_0, .bool a1_1, .bool a1_2, .bool a1_3, .bool a1_4, .bool a1_5, .int .i64 a1_6] 23 (0, 0)) (by (with_reducible repeat (first | refine blk_drewN ?_ _ | refine blk_drew ?_ | refine blk_alloc ?_ _)); refine blk_far ?_ NB114_116.out _; (with_reducible repeat (first | refine blk_drewN ?_ _ | refine blk_drew ?_ | refine blk_alloc ?_ _)); exact BK114.out) hb); have n2_ := Aside0.mk (blk_below (g := gb115) (o := .cells #[.int .u8 0, .string (⟨#[]⟩ : ByteArray), .slice none 0 0] 27 (0, 0)) (by (with_reducible repeat (first | refine blk_drewN ?_ _ | refine blk_drew ?_ | refine blk_alloc ?_ _)); refine blk_far ?_ NB115_116.out _; (with_reducible repeat (first | refine blk_drewN ?_ _ | refine blk_drew ?_ | refine blk_alloc ?_ _)); exact BK115.out) hb); have n3_ := Aside0.mk (blk_below (g := gb116) (o := .cells #[.int .u8 4, .string a0, .slice Ao23 y117.length co23] 27 (0, 0)) (by (with_reducible repeat (first | refine blk_drewN ?_ _ | refine blk_drew ?_ | refine blk_alloc ?_ _)); refine blk_put (cs := #[.int .u8 4, .string a0, .slice none 0 0]) ?_ 2 _ rfl; (with_reducible repeat (first | refine blk_drewN ?_ _ | refine blk_drew ?_ | refine blk_alloc ?_ _)); exact BK116.out) hb); have n4_ := Aside0.mk (below_step (by repeat (first | (with_reducible first | exact HB.out | apply below_alloc | apply pw_below_drewN | apply below_drew1 | refine below_set ?_ GE114.out | refine below_set ?_ GE115.out | refine below_set ?_ GE116.out) | exact HB.out)) hb); clear HO119; clear BK114; clear BK115; clear BK116; clear HB; have HO119 := n0_; have BK114 := n1_; have BK115 := n2_; have BK116 := n3_; have HB := n4_; clear n0_ n1_ n2_ n3_ n4_; (try clear hb); (try clear hb2); (try clear hk); (try clear hi); have hcz28_0 : w27.cell? ⟨gb116, 0, none⟩ = some (.int .u8 4) := (blk_cell BK116.out 0).trans rfl; have hcz28_1 : w27.cell? ⟨gb116, 1, none⟩ = some (.string a0) := (blk_cell BK116.out 1).trans rfl; have hcz28_2 : w27.cell? ⟨gb116, 2, none⟩ = some (.slice Ao23 y117.length co23) := (blk_cell BK116.out 2).trans rfl; have hfz28_0 := blk_frozen BK116.out 0; have hfz28_1 := blk_frozen BK116.out 1; have hfz28_2 := blk_frozen BK116.out 2; have hnb29 := NB115_114.out; have hnc29 := NB114_115.out; have hcz30_0 : w27.cell? ⟨gb115, 0, none⟩ = some (.int .u8 0) := (blk_cell BK115.out 0).trans rfl; have hcz30_1 : w27.cell? ⟨gb115, 1, none⟩ = some (.string (⟨#[]⟩ : ByteArray)) := (blk_cell BK115.out 1).trans rfl; have hcz30_2 : w27.cell? ⟨gb115, 2, none⟩ = some (.slice none 0 0) := (blk_cell BK115.out 2).trans rfl; have hfz30_0 := blk_frozen BK115.out 0; have hfz30_1 := blk_frozen BK115.out 1; have hfz30_2 := blk_frozen BK115.out 2))
     refine bodyPost_ret (results_ct rfl _ _ gb115 27 #[.int .u8 4, .string a0, .slice Ao23 y117.length co23] (0, 0) _ rfl (by (with_reducible repeat (first | refine blk_drewN ?_ _ | refine blk_drew ?_ | refine blk_alloc ?_ _)); refine blk_put (cs := #[.int .u8 4, .string a0, .slice none 0 0]) ?_ 2 _ rfl; (with_reducible repeat (first | refine blk_drewN ?_ _ | refine blk_drew ?_ | refine blk_alloc ?_ _)); refine blk_put (cs := #[.int .u8 4, .string (⟨#[]⟩ : ByteArray), .slice none 0 0]) ?_ 1 _ rfl; (with_reducible repeat (first | refine blk_drewN ?_ _ | refine blk_drew ?_ | refine blk_alloc ?_ _)); refine blk_put (cs := #[.int .u8 0, .string (⟨#[]⟩ : ByteArray), .slice none 0 0]) ?_ 0 _ rfl; (with_reducible repeat (first | refine blk_drewN ?_ _ | refine blk_drew ?_ | refine blk_alloc ?_ _)); exact BK115.out) Tryd.underlying27 rfl (by kernel_rfl)) rfl ?_
     exact ⟨_, by first | rfl | (simp [errW_none, errW_some] <;> rfl) | (simp [*, errW_none, errW_some] <;> rfl), by (with_reducible repeat (first | apply Kd.R_alloc | apply Kd.R_drewN | apply Kd.R_drew)); exact Kd.R_mono (Kd.R_far (p := ⟨gb115, 2, none⟩) (Kd.R_far (p := ⟨gb115, 1, none⟩) (Kd.R_far (p := ⟨gb115, 0, none⟩) (Kd.R_types HO119.out BK115.out (by decide)) (fun _ hk => hk.2) (.int .u8 4)) (fun _ hk => hk.2) (.string a0)) (fun _ hk => hk.2) (.slice Ao23 y117.length co23)) (fun _ hk => trivial), by repeat (first | (with_reducible first | exact HB.out | apply below_alloc | apply pw_below_drewN | apply below_drew1 | refine below_set ?_ GE114.out | refine below_set ?_ GE115.out | refine below_set ?_ GE116.out) | exact HB.out)⟩
    ·replace c20 := Bool.eq_false_iff.mpr c20
     subst c20
     have H1 : (some (0, (⟨#[]⟩ : ByteArray), ([] : List (S49)), 4)) = some (r1, r2, r3, r4) := by rw [if_neg (show ¬ (false = true) by decide)] at H; exact H
     clear H
     have H := H1
     clear H1
     simp only [Option.some.injEq, Prod.mk.injEq] at H
     obtain ⟨rfl, rfl, rfl, rfl⟩ := H
     go_wp2_with (first | ((with_reducible refine gate_dst (N := 17) rfl ?_); refine Kd.R_lit k49 _ 49 ?hg (N := 17) ?hd (xs := ([(⟨(⟨#[78, 79, 84, 73, 70, 89]⟩ : ByteArray), (⟨#[78, 69, 86, 69, 82]⟩ : ByteArray)⟩ : S49)] : List (S49))) (inner := [.string (⟨#[78, 79, 84, 73, 70, 89]⟩ : ByteArray), .string (⟨#[78, 69, 86, 69, 82]⟩ : ByteArray)]) (ok := fun _ => True) (okp := fun _ => True) ?hr ?hp (fun _ hk => hk) trivial (Below.refl _ _) (Nat.le_refl _) (by simp) ?_; (case hd => rfl); (case hg => rfl); (case hr => first | (go_simp; done) | (go_simp; rfl)); (case hp => exact (Reps.c2 (show Kd.M k49 _ _ _ (⟨(⟨#[78, 79, 84, 73, 70, 89]⟩ : ByteArray), (⟨#[78, 69, 86, 69, 82]⟩ : ByteArray)⟩ : S49) [.string (⟨#[78, 79, 84, 73, 70, 89]⟩ : ByteArray), .string (⟨#[78, 69, 86, 69, 82]⟩ : ByteArray)] from (k49_mkM _ _ _ (⟨(⟨#[78, 79, 84, 73, 70, 89]⟩ : ByteArray), (⟨#[78, 69, 86, 69, 82]⟩ : ByteArray)⟩ : S49) )) (Reps.none _ _))); intro v118 w31 ho32 hb hg_ hnew_; clear hg_ hnew_; (first | rw [← Ny117.out] at ho32 | (simp only [Int.reduceToNat] at ho32; rw [← Ny117.out] at ho32)); have n0_ := Aside0.mk (Kd.R_lower ho32 (below_size (by repeat (first | (with_reducible first | exact HB.out | apply below_alloc | apply pw_below_drewN | apply below_drew1 | refine below_set ?_ GE114.out | refine below_set ?_ GE115.out | refine below_set ?_ GE116.out) | exact HB.out)))); have n1_ := Aside0.mk (blk_below (g := gb114) (o := .cells #[.bool a1_0, .bool a1_1, .bool a1_2, .bool a1_3, .bool a1_4, .bool a1_5, .int .i64 a1_6] 23 (0, 0)) (by (with_reducible repeat (first | refine blk_drewN ?_ _ | refine blk_drew ?_ | refine blk_alloc ?_ _)); exact BK114.out) hb); have n2_ := Aside0.mk (blk_below (g := gb115) (o := .cells #[.int .u8 0, .string (⟨#[]⟩ : ByteArray), .slice none 0 0] 27 (0, 0)) (by (with_reducible repeat (first | refine blk_drewN ?_ _ | refine blk_drew ?_ | refine blk_alloc ?_ _)); exact BK115.out) hb); have n3_ := Aside0.mk (blk_below (g := gb116) (o := .cells #[.int .u8 4, .string a0, .slice none 0 0] 27 (0, 0)) (by (with_reducible repeat (first | refine blk_drewN ?_ _ | refine blk_drew ?_ | refine blk_alloc ?_ _)); exact BK116.out) hb); have n4_ := Aside0.mk (below_step (by repeat (first | (with_reducible first | exact HB.out | apply below_alloc | apply pw_below_drewN | apply below_drew1 | refine below_set ?_ GE114.out | refine below_set ?_ GE115.out | refine below_set ?_ GE116.out) | exact HB.out)) hb); clear BK114; clear BK115; clear BK116; clear HB; have HO119 := n0_; have BK114 := n1_; have BK115 := n2_; have BK116 := n3_; have HB := n4_; clear n0_ n1_ n2_ n3_ n4_; clear hb ho32; obtain ⟨Ao33, co33, eo33⟩ := Kd.R_slice HO119.out; subst eo33; have hnb34 := NB116_114.out; have hnc34 := NB114_116.out; have hnb35 := NB116_115.out; have hnc35 := NB115_116.out; have hcz36_0 : w31.cell? ⟨gb116, 0, none⟩ = some (.int .u8 4) := (blk_cell BK116.out 0).trans rfl; have hcz36_1 : w31.cell? ⟨gb116, 1, none⟩ = some (.string a0) := (blk_cell BK116.out 1).trans rfl; have hcz36_2 : w31.cell? ⟨gb116, 2, none⟩ = some (.slice none 0 0) := (blk_cell BK116.out 2).trans rfl; have hfz36_0 := blk_frozen BK116.out 0; have hfz36_1 := blk_frozen BK116.out 1; have hfz36_2 := blk_frozen BK116.out 2) | ((with_reducible refine gate_callee (f := 17) rfl ?_); refine goesL_ (some 20) rfl rfl Tryd.func17 (by kernel_rfl) rfl #[.agg #[.int .u8 4, .string a0, .slice Ao33 y117.length co33]] rfl (by (try simp only [List.map_toArray, List.map_cons, List.map_nil]); first | done | rfl | (simp only [List.length_drop, List.length_take]; rfl)) ?_; (with_reducible refine (cmd_May.calls kj3 4 a0 _ _ y117 false _ ?side1 ?side2 A19.out).mono ?_); (case side1 => refine (Kd.R_reads' (e := 49) (base := w.heap.size) (ok := fun k_ => True) (n := y117.length) (c := co33) ?_).2.2; exact (by (with_reducible repeat (first | apply Kd.R_alloc | apply Kd.R_drewN | apply Kd.R_drew)); exact (Kd.R_mono (Kd.R_far (p := ⟨gb116, 2, none⟩) (Kd.R_types HO119.out BK116.out (by decide)) (fun _ hk => hk.2) (.slice Ao33 y117.length co33)) (fun _ h_ => h_.1)))); (case side2 => exact (Kd.R_reads' HO119.out).2.1); rintro e w37 ⟨rfl, hb⟩; refine ⟨_, rfl, ?_⟩; have n0_ := Aside0.mk (Kd.R_below (by (with_reducible repeat (first | apply Kd.R_alloc | apply Kd.R_drewN | apply Kd.R_drew)); exact (Kd.R_mono (Kd.R_far (p := ⟨gb116, 2, none⟩) (Kd.R_types HO119.out BK116.out (by decide)) (fun _ hk => hk.2) (.slice Ao33 y117.length co33)) (fun _ h_ => h_.1))) hb); have n1_ := Aside0.mk (blk_below (g := gb114) (o := .cells #[.bool a1_0, .bool a1_1, .bool a1_2, .bool a1_3, .bool a1_4, .bool a1_5, .int .i64 a1_6] 23 (0, 0)) (by (with_reducible repeat (first | refine blk_drewN ?_ _ | refine blk_drew ?_ | refine blk_alloc ?_ _)); refine blk_far ?_ NB114_116.out _; (with_reducible repeat (first | refine blk_drewN ?_ _ | refine blk_drew ?_ | refine blk_alloc ?_ _)); exact BK114.out) hb); have n2_ := Aside0.mk (blk_below (g := gb115) (o := .cells #[.int .u8 0, .string (⟨#[]⟩ : ByteArray), .slice none 0 0] 27 (0, 0)) (by (with_reducible repeat (first | refine blk_drewN ?_ _ | refine blk_drew ?_ | refine blk_alloc ?_ _)); refine blk_far ?_ NB115_116.out _; (with_reducible repeat (first | refine blk_drewN ?_ _ | refine blk_drew ?_ | refine blk_alloc ?_ _)); exact BK115.out) hb); have n3_ := Aside0.mk (blk_below (g := gb116) (o := .cells #[.int .u8 4, .string a0, .slice Ao33 y117.length co33] 27 (0, 0)) (by (with_reducible repeat (first | refine blk_drewN ?_ _ | refine blk_drew ?_ | refine blk_alloc ?_ _)); refine blk_put (cs := #[.int .u8 4, .string a0, .slice none 0 0]) ?_ 2 _ rfl; (with_reducible repeat (first | refine blk_drewN ?_ _ | refine blk_drew ?_ | refine blk_alloc ?_ _)); exact BK116.out) hb); have n4_ := Aside0.mk (below_step (by repeat (first | (with_reducible first | exact HB.out | apply below_alloc | apply pw_below_drewN | apply below_drew1 | refine below_set ?_ GE114.out | refine below_set ?_ GE115.out | refine below_set ?_ GE116.out) | exact HB.out)) hb); clear HO119; clear BK114; clear BK115; clear BK116; clear HB; have HO119 := n0_; have BK114 := n1_; have BK115 := n2_; have BK116 := n3_; have HB := n4_; clear n0_ n1_ n2_ n3_ n4_; (try clear hb); (try clear hb2); (try clear hk); (try clear hi); have hnb38 := NB115_114.out; have hnc38 := NB114_115.out; have hcz39_0 : w37.cell? ⟨gb115, 0, none⟩ = some (.int .u8 0) := (blk_cell BK115.out 0).trans rfl; have hcz39_1 : w37.cell? ⟨gb115, 1, none⟩ = some (.string (⟨#[]⟩ : ByteArray)) := (blk_cell BK115.out 1).trans rfl; have hcz39_2 : w37.cell? ⟨gb115, 2, none⟩ = some (.slice none 0 0) := (blk_cell BK115.out 2).trans rfl; have hfz39_0 := blk_frozen BK115.out 0; have hfz39_1 := blk_frozen BK115.out 1; have hfz39_2 := blk_frozen BK115.out 2))
     refine bodyPost_ret (results_ct rfl _ _ gb115 27 #[.int .u8 0, .string (⟨#[]⟩ : ByteArray), .slice none 0 0] (0, 0) _ rfl (by (with_reducible repeat (first | refine blk_drewN ?_ _ | refine blk_drew ?_ | refine blk_alloc ?_ _)); refine blk_put (cs := #[.int .u8 0, .string (⟨#[]⟩ : ByteArray), .slice none 0 0]) ?_ 2 _ rfl; (with_reducible repeat (first | refine blk_drewN ?_ _ | refine blk_drew ?_ | refine blk_alloc ?_ _)); refine blk_put (cs := #[.int .u8 0, .string (⟨#[]⟩ : ByteArray), .slice none 0 0]) ?_ 1 _ rfl; (with_reducible repeat (first | refine blk_drewN ?_ _ | refine blk_drew ?_ | refine blk_alloc ?_ _)); refine blk_put (cs := #[.int .u8 0, .string (⟨#[]⟩ : ByteArray), .slice none 0 0]) ?_ 0 _ rfl; (with_reducible repeat (first | refine blk_drewN ?_ _ | refine blk_drew ?_ | refine blk_alloc ?_ _)); exact BK115.out) Tryd.underlying27 rfl (by kernel_rfl)) rfl ?_
     exact ⟨_, by first | rfl | (simp [errW_none, errW_some] <;> rfl) | (simp [*, errW_none, errW_some] <;> rfl), by first | exact Kd.R_nil _ _ _ _ _ | exact Kd.N_nil _ _ _ _ _ | exact Kd.V_nil _ _ _ _ _ | exact Kd.Q_nil _ _ _ _ _ | exact Kd.S_nil _ _ _ _ _, by repeat (first | (with_reducible first | exact HB.out | apply below_alloc | apply pw_below_drewN | apply below_drew1 | refine below_set ?_ GE114.out | refine below_set ?_ GE115.out | refine below_set ?_ GE116.out) | exact HB.out)⟩
   ·replace c18 := Bool.eq_false_iff.mpr c18
    subst c18
    have H1 : ((cmd_May.f kj3 4 a0 ([] : List (S49))).bind fun t121 => (if t121 = true then (some (4, a0, ([] : List (S49)), 0)) else (some (0, (⟨#[]⟩ : ByteArray), ([] : List (S49)), 4)))) = some (r1, r2, r3, r4) := by rw [if_neg (show ¬ (false = true) by decide)] at H; exact H
    clear H
    have H := H1
    clear H1
    replace H := Option.bind_eq_some_iff.mp H
    obtain ⟨t121, A400, H⟩ := H
    replace H : (if t121 = true then (some (4, a0, ([] : List (S49)), 0)) else (some (0, (⟨#[]⟩ : ByteArray), ([] : List (S49)), 4))) = some (r1, r2, r3, r4) := H
    have A40 := Aside0.mk A400
    clear A400
    by_cases c41 : t121 = true
    ·subst c41
     have H1 : (some (4, a0, ([] : List (S49)), 0)) = some (r1, r2, r3, r4) := by rw [if_pos rfl] at H; exact H
     clear H
     have H := H1
     clear H1
     simp only [Option.some.injEq, Prod.mk.injEq] at H
     obtain ⟨rfl, rfl, rfl, rfl⟩ := H
     have hnb42 := NB116_114.out
     have hnc42 := NB114_116.out
     have hnb43 := NB116_115.out
     have hnc43 := NB115_116.out
     have hcz44_0 : wc.cell? ⟨gb116, 0, none⟩ = some (.int .u8 4) := (blk_cell BK116.out 0).trans rfl
     have hcz44_1 : wc.cell? ⟨gb116, 1, none⟩ = some (.string a0) := (blk_cell BK116.out 1).trans rfl
     have hcz44_2 : wc.cell? ⟨gb116, 2, none⟩ = some (.slice none 0 0) := (blk_cell BK116.out 2).trans rfl
     have hfz44_0 := blk_frozen BK116.out 0
     have hfz44_1 := blk_frozen BK116.out 1
     have hfz44_2 := blk_frozen BK116.out 2
     go_wp2_with (first | ((with_reducible refine gate_callee (f := 17) rfl ?_); refine goesL_ (some 20) rfl rfl Tryd.func17 (by kernel_rfl) rfl #[.agg #[.int .u8 4, .string a0, .slice none 0 0]] rfl (by (try simp only [List.map_toArray, List.map_cons, List.map_nil]); first | done | rfl | (simp only [List.length_drop, List.length_take]; rfl)) ?_; (refine (cmd_May.calls kj3 4 a0 _ _ ([] : List (S49)) true _ ?side1 ?side2 A40.out).mono ?_); (case side1 => exact Kd.C_nil _ _); (case side2 => exact Nat.le_refl _); rintro e w45 ⟨rfl, hb⟩; refine ⟨_, rfl, ?_⟩; have n0_ := Aside0.mk (blk_below (g := gb114) (o := .cells #[.bool a1_0, .bool a1_1, .bool a1_2, .bool a1_3, .bool a1_4, .bool a1_5, .int .i64 a1_6] 23 (0, 0)) (by (with_reducible repeat (first | refine blk_drewN ?_ _ | refine blk_drew ?_ | refine blk_alloc ?_ _)); exact BK114.out) hb); have n1_ := Aside0.mk (blk_below (g := gb115) (o := .cells #[.int .u8 0, .string (⟨#[]⟩ : ByteArray), .slice none 0 0] 27 (0, 0)) (by (with_reducible repeat (first | refine blk_drewN ?_ _ | refine blk_drew ?_ | refine blk_alloc ?_ _)); exact BK115.out) hb); have n2_ := Aside0.mk (blk_below (g := gb116) (o := .cells #[.int .u8 4, .string a0, .slice none 0 0] 27 (0, 0)) (by (with_reducible repeat (first | refine blk_drewN ?_ _ | refine blk_drew ?_ | refine blk_alloc ?_ _)); exact BK116.out) hb); have n3_ := Aside0.mk (below_step (by repeat (first | (with_reducible first | exact HB.out | apply below_alloc | apply pw_below_drewN | apply below_drew1 | refine below_set ?_ GE114.out | refine below_set ?_ GE115.out | refine below_set ?_ GE116.out) | exact HB.out)) hb); clear BK114; clear BK115; clear BK116; clear HB; have BK114 := n0_; have BK115 := n1_; have BK116 := n2_; have HB := n3_; clear n0_ n1_ n2_ n3_; (try clear hb); (try clear hb2); (try clear hk); (try clear hi); have hcz46_0 : w45.cell? ⟨gb116, 0, none⟩ = some (.int .u8 4) := (blk_cell BK116.out 0).trans rfl; have hcz46_1 : w45.cell? ⟨gb116, 1, none⟩ = some (.string a0) := (blk_cell BK116.out 1).trans rfl; have hcz46_2 : w45.cell? ⟨gb116, 2, none⟩ = some (.slice none 0 0) := (blk_cell BK116.out 2).trans rfl; have hfz46_0 := blk_frozen BK116.out 0; have hfz46_1 := blk_frozen BK116.out 1; have hfz46_2 := blk_frozen BK116.out 2; have hnb47 := NB115_114.out; have hnc47 := NB114_115.out; have hcz48_0 : w45.cell? ⟨gb115, 0, none⟩ = some (.int .u8 0) := (blk_cell BK115.out 0).trans rfl; have hcz48_1 : w45.cell? ⟨gb115, 1, none⟩ = some (.string (⟨#[]⟩ : ByteArray)) := (blk_cell BK115.out 1).trans rfl; have hcz48_2 : w45.cell? ⟨gb115, 2, none⟩ = some (.slice none 0 0) := (blk_cell BK115.out 2).trans rfl; have hfz48_0 := blk_frozen BK115.out 0; have hfz48_1 := blk_frozen BK115.out 1; have hfz48_2 := blk_frozen BK115.out 2))
     refine bodyPost_ret (results_ct rfl _ _ gb115 27 #[.int .u8 4, .string a0, .slice none 0 0] (0, 0) _ rfl (by (with_reducible repeat (first | refine blk_drewN ?_ _ | refine blk_drew ?_ | refine blk_alloc ?_ _)); refine blk_put (cs := #[.int .u8 4, .string a0, .slice none 0 0]) ?_ 2 _ rfl; (with_reducible repeat (first | refine blk_drewN ?_ _ | refine blk_drew ?_ | refine blk_alloc ?_ _)); refine blk_put (cs := #[.int .u8 4, .string (⟨#[]⟩ : ByteArray), .slice none 0 0]) ?_ 1 _ rfl; (with_reducible repeat (first | refine blk_drewN ?_ _ | refine blk_drew ?_ | refine blk_alloc ?_ _)); refine blk_put (cs := #[.int .u8 0, .string (⟨#[]⟩ : ByteArray), .slice none 0 0]) ?_ 0 _ rfl; (with_reducible repeat (first | refine blk_drewN ?_ _ | refine blk_drew ?_ | refine blk_alloc ?_ _)); exact BK115.out) Tryd.underlying27 rfl (by kernel_rfl)) rfl ?_
     exact ⟨_, by first | rfl | (simp [errW_none, errW_some] <;> rfl) | (simp [*, errW_none, errW_some] <;> rfl), by first | exact Kd.R_nil _ _ _ _ _ | exact Kd.N_nil _ _ _ _ _ | exact Kd.V_nil _ _ _ _ _ | exact Kd.Q_nil _ _ _ _ _ | exact Kd.S_nil _ _ _ _ _, by repeat (first | (with_reducible first | exact HB.out | apply below_alloc | apply pw_below_drewN | apply below_drew1 | refine below_set ?_ GE114.out | refine below_set ?_ GE115.out | refine below_set ?_ GE116.out) | exact HB.out)⟩
    ·replace c41 := Bool.eq_false_iff.mpr c41
     subst c41
     have H1 : (some (0, (⟨#[]⟩ : ByteArray), ([] : List (S49)), 4)) = some (r1, r2, r3, r4) := by rw [if_neg (show ¬ (false = true) by decide)] at H; exact H
     clear H
     have H := H1
     clear H1
     simp only [Option.some.injEq, Prod.mk.injEq] at H
     obtain ⟨rfl, rfl, rfl, rfl⟩ := H
     have hnb49 := NB116_114.out
     have hnc49 := NB114_116.out
     have hnb50 := NB116_115.out
     have hnc50 := NB115_116.out
     have hcz51_0 : wc.cell? ⟨gb116, 0, none⟩ = some (.int .u8 4) := (blk_cell BK116.out 0).trans rfl
     have hcz51_1 : wc.cell? ⟨gb116, 1, none⟩ = some (.string a0) := (blk_cell BK116.out 1).trans rfl
     have hcz51_2 : wc.cell? ⟨gb116, 2, none⟩ = some (.slice none 0 0) := (blk_cell BK116.out 2).trans rfl
     have hfz51_0 := blk_frozen BK116.out 0
     have hfz51_1 := blk_frozen BK116.out 1
     have hfz51_2 := blk_frozen BK116.out 2
     go_wp2_with (first | ((with_reducible refine gate_callee (f := 17) rfl ?_); refine goesL_ (some 20) rfl rfl Tryd.func17 (by kernel_rfl) rfl #[.agg #[.int .u8 4, .string a0, .slice none 0 0]] rfl (by (try simp only [List.map_toArray, List.map_cons, List.map_nil]); first | done | rfl | (simp only [List.length_drop, List.length_take]; rfl)) ?_; (refine (cmd_May.calls kj3 4 a0 _ _ ([] : List (S49)) false _ ?side1 ?side2 A40.out).mono ?_); (case side1 => exact Kd.C_nil _ _); (case side2 => exact Nat.le_refl _); rintro e w52 ⟨rfl, hb⟩; refine ⟨_, rfl, ?_⟩; have n0_ := Aside0.mk (blk_below (g := gb114) (o := .cells #[.bool a1_0, .bool a1_1, .bool a1_2, .bool a1_3, .bool a1_4, .bool a1_5, .int .i64 a1_6] 23 (0, 0)) (by (with_reducible repeat (first | refine blk_drewN ?_ _ | refine blk_drew ?_ | refine blk_alloc ?_ _)); exact BK114.out) hb); have n1_ := Aside0.mk (blk_below (g := gb115) (o := .cells #[.int .u8 0, .string (⟨#[]⟩ : ByteArray), .slice none 0 0] 27 (0, 0)) (by (with_reducible repeat (first | refine blk_drewN ?_ _ | refine blk_drew ?_ | refine blk_alloc ?_ _)); exact BK115.out) hb); have n2_ := Aside0.mk (blk_below (g := gb116) (o := .cells #[.int .u8 4, .string a0, .slice none 0 0] 27 (0, 0)) (by (with_reducible repeat (first | refine blk_drewN ?_ _ | refine blk_drew ?_ | refine blk_alloc ?_ _)); exact BK116.out) hb); have n3_ := Aside0.mk (below_step (by repeat (first | (with_reducible first | exact HB.out | apply below_alloc | apply pw_below_drewN | apply below_drew1 | refine below_set ?_ GE114.out | refine below_set ?_ GE115.out | refine below_set ?_ GE116.out) | exact HB.out)) hb); clear BK114; clear BK115; clear BK116; clear HB; have BK114 := n0_; have BK115 := n1_; have BK116 := n2_; have HB := n3_; clear n0_ n1_ n2_ n3_; (try clear hb); (try clear hb2); (try clear hk); (try clear hi); have hnb53 := NB115_114.out; have hnc53 := NB114_115.out; have hcz54_0 : w52.cell? ⟨gb115, 0, none⟩ = some (.int .u8 0) := (blk_cell BK115.out 0).trans rfl; have hcz54_1 : w52.cell? ⟨gb115, 1, none⟩ = some (.string (⟨#[]⟩ : ByteArray)) := (blk_cell BK115.out 1).trans rfl; have hcz54_2 : w52.cell? ⟨gb115, 2, none⟩ = some (.slice none 0 0) := (blk_cell BK115.out 2).trans rfl; have hfz54_0 := blk_frozen BK115.out 0; have hfz54_1 := blk_frozen BK115.out 1; have hfz54_2 := blk_frozen BK115.out 2))
     refine bodyPost_ret (results_ct rfl _ _ gb115 27 #[.int .u8 0, .string (⟨#[]⟩ : ByteArray), .slice none 0 0] (0, 0) _ rfl (by (with_reducible repeat (first | refine blk_drewN ?_ _ | refine blk_drew ?_ | refine blk_alloc ?_ _)); refine blk_put (cs := #[.int .u8 0, .string (⟨#[]⟩ : ByteArray), .slice none 0 0]) ?_ 2 _ rfl; (with_reducible repeat (first | refine blk_drewN ?_ _ | refine blk_drew ?_ | refine blk_alloc ?_ _)); refine blk_put (cs := #[.int .u8 0, .string (⟨#[]⟩ : ByteArray), .slice none 0 0]) ?_ 1 _ rfl; (with_reducible repeat (first | refine blk_drewN ?_ _ | refine blk_drew ?_ | refine blk_alloc ?_ _)); refine blk_put (cs := #[.int .u8 0, .string (⟨#[]⟩ : ByteArray), .slice none 0 0]) ?_ 0 _ rfl; (with_reducible repeat (first | refine blk_drewN ?_ _ | refine blk_drew ?_ | refine blk_alloc ?_ _)); exact BK115.out) Tryd.underlying27 rfl (by kernel_rfl)) rfl ?_
     exact ⟨_, by first | rfl | (simp [errW_none, errW_some] <;> rfl) | (simp [*, errW_none, errW_some] <;> rfl), by first | exact Kd.R_nil _ _ _ _ _ | exact Kd.N_nil _ _ _ _ _ | exact Kd.V_nil _ _ _ _ _ | exact Kd.Q_nil _ _ _ _ _ | exact Kd.S_nil _ _ _ _ _, by repeat (first | (with_reducible first | exact HB.out | apply below_alloc | apply pw_below_drewN | apply below_drew1 | refine below_set ?_ GE114.out | refine below_set ?_ GE115.out | refine below_set ?_ GE116.out) | exact HB.out)⟩
end Go.Proofs.YtljkopbalejcgaaDoor.P
end
section
namespace Go.Proofs.YtljkopbalejcgaaDoor.P
open Go.RowKit Go.Proofs.YtljkopbalejcgaaDoorW.PrintWords Go.Proofs.YtljkopbalejcgaaDoorW.PrintLast Go.Proofs.YtljkopbalejcgaaDoorW.PrintMore
attribute [local go_sem] max2_int min2_int max_two min_two max_three min_three max_four min_four
set_option linter.unusedVariables false
set_option linter.unusedSimpArgs false
def mailroomlaw07_wrong.f (a0 : ByteArray) : Option (Int) := (cmd_Parse.f a0).bind fun bt135 => (if bt135.1 = 0 then (if bt135.2.1.toList = ([] : List UInt8) then (if (bt135.2.2.1.length : Int) = 0 then (some bt135.2.2.2) else (some 0)) else (some 0)) else (some 0))
set_option maxHeartbeats 8000000 in
set_option maxRecDepth 100000 in
theorem mailroomlaw07_wrong.calls (a0 : ByteArray) (r : Int) (w : World) (h : mailroomlaw07_wrong.f a0 = some r) :
  Calls Tryd.prog 20 #[.string a0] w fun e w' => e = .returned (.int .i64 r) ∧ Below w.heap.size w w' := by
 have hu27 := Tryd.underlying27
 have HB := Aside0.mk (Below.refl w.heap.size w)
 have H : ((cmd_Parse.f a0).bind fun bt135 => (if bt135.1 = 0 then (if bt135.2.1.toList = ([] : List UInt8) then (if (bt135.2.2.1.length : Int) = 0 then (some bt135.2.2.2) else (some 0)) else (some 0)) else (some 0))) = some r := h
 clear h
 replace H := Option.bind_eq_some_iff.mp H
 obtain ⟨⟨t135, t136, t137, t140⟩, A20, H⟩ := H
 replace H : (if t135 = 0 then (if t136.toList = ([] : List UInt8) then (if (t137.length : Int) = 0 then (some t140) else (some 0)) else (some 0)) else (some 0)) = some r := H
 have A2 := Aside0.mk A20
 clear A20
 by_cases c3 : t135 = 0
 ·rw [if_pos c3] at H
  have c3b0 : (t135 == 0) = true := beq_iff_eq.mpr c3
  have c3b1 : (t135 != 0) = false := bne_eq_false_iff_eq.mpr c3
  clear c3
  by_cases c4 : t136.toList = ([] : List UInt8)
  ·rw [if_pos c4] at H
   have c4b0 : (t136.toList == ([] : List UInt8)) = true := beq_iff_eq.mpr c4
   have c4b1 : (t136.toList != ([] : List UInt8)) = false := bne_eq_false_iff_eq.mpr c4
   clear c4
   by_cases c5 : (t137.length : Int) = 0
   ·rw [if_pos c5] at H
    have c5b0 : ((t137.length : Int) == 0) = true := beq_iff_eq.mpr c5
    have c5b1 : ((t137.length : Int) != 0) = false := bne_eq_false_iff_eq.mpr c5
    clear c5
    obtain rfl := Option.some.inj H
    go_enter Tryd.func20, Tryd.ntmps20
    go_wp2_with (first | ((with_reducible refine gate_callee (f := 14) rfl ?_); refine goesL_ (some 7) rfl rfl Tryd.func14 (by kernel_rfl) rfl #[.string a0] rfl (by (try simp only [List.map_toArray, List.map_cons, List.map_nil]); first | done | rfl | (simp only [List.length_drop, List.length_take]; rfl)) ?_; (with_reducible refine (cmd_Parse.calls a0 t135 t136 t137 t140 _ A2.out).mono ?_); rintro e w6 ⟨v138, rfl, ho0, hb⟩; refine ⟨_, rfl, ?_⟩; have n0_ := Aside0.mk (Kd.R_lower ho0 (below_size (by repeat (first | (with_reducible first | exact HB.out | apply below_alloc | apply pw_below_drewN | apply below_drew1) | exact HB.out)))); have n1_ := Aside0.mk (below_step (by repeat (first | (with_reducible first | exact HB.out | apply below_alloc | apply pw_below_drewN | apply below_drew1) | exact HB.out)) hb); clear HB; have HO139 := n0_; have HB := n1_; clear n0_ n1_; (try clear hb); (try clear hb2); (try clear hk); (try clear hi); (try clear ho0)) | ((with_reducible refine gate_dst (N := 3) rfl ?_); (try (refine gate_guard (by rfl) ?_; dsimp only)); refine box_event ?hg (N := 3) ?hd (cs := #[.int .u8 0, .string (⟨#[]⟩ : ByteArray), .slice none 0 0]) (t := 27) ?hr ?_; (case hd => rfl); (case hg => rfl); (case hr => first | (go_simp; done) | (go_simp; rfl)); intro gb141 hg w7 hbox hb; have n0_ := Aside0.mk (Kd.R_below (by (with_reducible repeat (first | apply Kd.R_alloc | apply Kd.R_drewN | apply Kd.R_drew)); exact HO139.out) hb); have n1_ := Aside0.mk (below_step (by repeat (first | (with_reducible first | exact HB.out | apply below_alloc | apply pw_below_drewN | apply below_drew1) | exact HB.out)) hb); have n2_ := Aside0.mk (hbox); have n3_ := Aside0.mk ((by rw [hg]; exact (below_size (by repeat (first | (with_reducible first | exact HB.out | apply below_alloc | apply pw_below_drewN | apply below_drew1) | exact HB.out))) : w.heap.size ≤ gb141)); have n4_ := Aside0.mk ((by rw [hg]; exact (below_size (by repeat (first | (with_reducible first | exact HB.out | apply below_alloc | apply pw_below_drewN | apply below_drew1) | exact HB.out))) : w.heap.size ≤ gb141)); clear HO139; clear HB; have HO139 := n0_; have HB := n1_; have BK141 := n2_; have GW141 := n3_; have GE141 := n4_; clear n0_ n1_ n2_ n3_ n4_; clear hb hbox hg; have hcz8_0 : w7.cell? ⟨gb141, 0, none⟩ = some (.int .u8 0) := (blk_cell BK141.out 0).trans rfl; have hcz8_1 : w7.cell? ⟨gb141, 1, none⟩ = some (.string (⟨#[]⟩ : ByteArray)) := (blk_cell BK141.out 1).trans rfl; have hcz8_2 : w7.cell? ⟨gb141, 2, none⟩ = some (.slice none 0 0) := (blk_cell BK141.out 2).trans rfl; have hfz8_0 := blk_frozen BK141.out 0; have hfz8_1 := blk_frozen BK141.out 1; have hfz8_2 := blk_frozen BK141.out 2; obtain ⟨Ao9, co9, eo9⟩ := Kd.R_slice HO139.out; subst eo9))
    go_ret
    exact ⟨by first | rfl | (simp [errW_none, errW_some] <;> rfl) | (simp [*, errW_none, errW_some] <;> rfl), by repeat (first | (with_reducible first | exact HB.out | apply below_alloc | apply pw_below_drewN | apply below_drew1 | refine below_set ?_ GE141.out) | exact HB.out)⟩
   ·rw [if_neg c5] at H
    have c5b0 : ((t137.length : Int) == 0) = false := beq_eq_false_iff_ne.mpr c5
    have c5b1 : ((t137.length : Int) != 0) = true := bne_iff_ne.mpr c5
    have c5b2 : ¬ (t137 = []) := fun h_ => c5 (by rw [h_]; rfl)
    obtain rfl := Option.some.inj H
    go_enter Tryd.func20, Tryd.ntmps20
    go_wp2_with (first | ((with_reducible refine gate_callee (f := 14) rfl ?_); refine goesL_ (some 7) rfl rfl Tryd.func14 (by kernel_rfl) rfl #[.string a0] rfl (by (try simp only [List.map_toArray, List.map_cons, List.map_nil]); first | done | rfl | (simp only [List.length_drop, List.length_take]; rfl)) ?_; (with_reducible refine (cmd_Parse.calls a0 t135 t136 t137 t140 _ A2.out).mono ?_); rintro e w10 ⟨v138, rfl, ho0, hb⟩; refine ⟨_, rfl, ?_⟩; have n0_ := Aside0.mk (Kd.R_lower ho0 (below_size (by repeat (first | (with_reducible first | exact HB.out | apply below_alloc | apply pw_below_drewN | apply below_drew1) | exact HB.out)))); have n1_ := Aside0.mk (below_step (by repeat (first | (with_reducible first | exact HB.out | apply below_alloc | apply pw_below_drewN | apply below_drew1) | exact HB.out)) hb); clear HB; have HO139 := n0_; have HB := n1_; clear n0_ n1_; (try clear hb); (try clear hb2); (try clear hk); (try clear hi); (try clear ho0)) | ((with_reducible refine gate_dst (N := 3) rfl ?_); (try (refine gate_guard (by rfl) ?_; dsimp only)); refine box_event ?hg (N := 3) ?hd (cs := #[.int .u8 0, .string (⟨#[]⟩ : ByteArray), .slice none 0 0]) (t := 27) ?hr ?_; (case hd => rfl); (case hg => rfl); (case hr => first | (go_simp; done) | (go_simp; rfl)); intro gb141 hg w11 hbox hb; have n0_ := Aside0.mk (Kd.R_below (by (with_reducible repeat (first | apply Kd.R_alloc | apply Kd.R_drewN | apply Kd.R_drew)); exact HO139.out) hb); have n1_ := Aside0.mk (below_step (by repeat (first | (with_reducible first | exact HB.out | apply below_alloc | apply pw_below_drewN | apply below_drew1) | exact HB.out)) hb); have n2_ := Aside0.mk (hbox); have n3_ := Aside0.mk ((by rw [hg]; exact (below_size (by repeat (first | (with_reducible first | exact HB.out | apply below_alloc | apply pw_below_drewN | apply below_drew1) | exact HB.out))) : w.heap.size ≤ gb141)); have n4_ := Aside0.mk ((by rw [hg]; exact (below_size (by repeat (first | (with_reducible first | exact HB.out | apply below_alloc | apply pw_below_drewN | apply below_drew1) | exact HB.out))) : w.heap.size ≤ gb141)); clear HO139; clear HB; have HO139 := n0_; have HB := n1_; have BK141 := n2_; have GW141 := n3_; have GE141 := n4_; clear n0_ n1_ n2_ n3_ n4_; clear hb hbox hg; have hcz12_0 : w11.cell? ⟨gb141, 0, none⟩ = some (.int .u8 0) := (blk_cell BK141.out 0).trans rfl; have hcz12_1 : w11.cell? ⟨gb141, 1, none⟩ = some (.string (⟨#[]⟩ : ByteArray)) := (blk_cell BK141.out 1).trans rfl; have hcz12_2 : w11.cell? ⟨gb141, 2, none⟩ = some (.slice none 0 0) := (blk_cell BK141.out 2).trans rfl; have hfz12_0 := blk_frozen BK141.out 0; have hfz12_1 := blk_frozen BK141.out 1; have hfz12_2 := blk_frozen BK141.out 2; obtain ⟨Ao13, co13, eo13⟩ := Kd.R_slice HO139.out; subst eo13))
    go_ret
    exact ⟨by first | rfl | (simp [errW_none, errW_some] <;> rfl) | (simp [*, errW_none, errW_some] <;> rfl), by repeat (first | (with_reducible first | exact HB.out | apply below_alloc | apply pw_below_drewN | apply below_drew1 | refine below_set ?_ GE141.out) | exact HB.out)⟩
  ·rw [if_neg c4] at H
   have c4b0 : (t136.toList == ([] : List UInt8)) = false := beq_eq_false_iff_ne.mpr c4
   have c4b1 : (t136.toList != ([] : List UInt8)) = true := bne_iff_ne.mpr c4
   obtain rfl := Option.some.inj H
   go_enter Tryd.func20, Tryd.ntmps20
   go_wp2_with (first | ((with_reducible refine gate_callee (f := 14) rfl ?_); refine goesL_ (some 7) rfl rfl Tryd.func14 (by kernel_rfl) rfl #[.string a0] rfl (by (try simp only [List.map_toArray, List.map_cons, List.map_nil]); first | done | rfl | (simp only [List.length_drop, List.length_take]; rfl)) ?_; (with_reducible refine (cmd_Parse.calls a0 t135 t136 t137 t140 _ A2.out).mono ?_); rintro e w14 ⟨v138, rfl, ho0, hb⟩; refine ⟨_, rfl, ?_⟩; have n0_ := Aside0.mk (Kd.R_lower ho0 (below_size (by repeat (first | (with_reducible first | exact HB.out | apply below_alloc | apply pw_below_drewN | apply below_drew1) | exact HB.out)))); have n1_ := Aside0.mk (below_step (by repeat (first | (with_reducible first | exact HB.out | apply below_alloc | apply pw_below_drewN | apply below_drew1) | exact HB.out)) hb); clear HB; have HO139 := n0_; have HB := n1_; clear n0_ n1_; (try clear hb); (try clear hb2); (try clear hk); (try clear hi); (try clear ho0)) | ((with_reducible refine gate_dst (N := 3) rfl ?_); (try (refine gate_guard (by rfl) ?_; dsimp only)); refine box_event ?hg (N := 3) ?hd (cs := #[.int .u8 0, .string (⟨#[]⟩ : ByteArray), .slice none 0 0]) (t := 27) ?hr ?_; (case hd => rfl); (case hg => rfl); (case hr => first | (go_simp; done) | (go_simp; rfl)); intro gb141 hg w15 hbox hb; have n0_ := Aside0.mk (Kd.R_below (by (with_reducible repeat (first | apply Kd.R_alloc | apply Kd.R_drewN | apply Kd.R_drew)); exact HO139.out) hb); have n1_ := Aside0.mk (below_step (by repeat (first | (with_reducible first | exact HB.out | apply below_alloc | apply pw_below_drewN | apply below_drew1) | exact HB.out)) hb); have n2_ := Aside0.mk (hbox); have n3_ := Aside0.mk ((by rw [hg]; exact (below_size (by repeat (first | (with_reducible first | exact HB.out | apply below_alloc | apply pw_below_drewN | apply below_drew1) | exact HB.out))) : w.heap.size ≤ gb141)); have n4_ := Aside0.mk ((by rw [hg]; exact (below_size (by repeat (first | (with_reducible first | exact HB.out | apply below_alloc | apply pw_below_drewN | apply below_drew1) | exact HB.out))) : w.heap.size ≤ gb141)); clear HO139; clear HB; have HO139 := n0_; have HB := n1_; have BK141 := n2_; have GW141 := n3_; have GE141 := n4_; clear n0_ n1_ n2_ n3_ n4_; clear hb hbox hg; have hcz16_0 : w15.cell? ⟨gb141, 0, none⟩ = some (.int .u8 0) := (blk_cell BK141.out 0).trans rfl; have hcz16_1 : w15.cell? ⟨gb141, 1, none⟩ = some (.string (⟨#[]⟩ : ByteArray)) := (blk_cell BK141.out 1).trans rfl; have hcz16_2 : w15.cell? ⟨gb141, 2, none⟩ = some (.slice none 0 0) := (blk_cell BK141.out 2).trans rfl; have hfz16_0 := blk_frozen BK141.out 0; have hfz16_1 := blk_frozen BK141.out 1; have hfz16_2 := blk_frozen BK141.out 2; obtain ⟨Ao17, co17, eo17⟩ := Kd.R_slice HO139.out; subst eo17))
   go_ret
   exact ⟨by first | rfl | (simp [errW_none, errW_some] <;> rfl) | (simp [*, errW_none, errW_some] <;> rfl), by repeat (first | (with_reducible first | exact HB.out | apply below_alloc | apply pw_below_drewN | apply below_drew1 | refine below_set ?_ GE141.out) | exact HB.out)⟩
 ·rw [if_neg c3] at H
  have c3b0 : (t135 == 0) = false := beq_eq_false_iff_ne.mpr c3
  have c3b1 : (t135 != 0) = true := bne_iff_ne.mpr c3
  obtain rfl := Option.some.inj H
  go_enter Tryd.func20, Tryd.ntmps20
  go_wp2_with (first | ((with_reducible refine gate_callee (f := 14) rfl ?_); refine goesL_ (some 7) rfl rfl Tryd.func14 (by kernel_rfl) rfl #[.string a0] rfl (by (try simp only [List.map_toArray, List.map_cons, List.map_nil]); first | done | rfl | (simp only [List.length_drop, List.length_take]; rfl)) ?_; (with_reducible refine (cmd_Parse.calls a0 t135 t136 t137 t140 _ A2.out).mono ?_); rintro e w18 ⟨v138, rfl, ho0, hb⟩; refine ⟨_, rfl, ?_⟩; have n0_ := Aside0.mk (Kd.R_lower ho0 (below_size (by repeat (first | (with_reducible first | exact HB.out | apply below_alloc | apply pw_below_drewN | apply below_drew1) | exact HB.out)))); have n1_ := Aside0.mk (below_step (by repeat (first | (with_reducible first | exact HB.out | apply below_alloc | apply pw_below_drewN | apply below_drew1) | exact HB.out)) hb); clear HB; have HO139 := n0_; have HB := n1_; clear n0_ n1_; (try clear hb); (try clear hb2); (try clear hk); (try clear hi); (try clear ho0)) | ((with_reducible refine gate_dst (N := 3) rfl ?_); (try (refine gate_guard (by rfl) ?_; dsimp only)); refine box_event ?hg (N := 3) ?hd (cs := #[.int .u8 0, .string (⟨#[]⟩ : ByteArray), .slice none 0 0]) (t := 27) ?hr ?_; (case hd => rfl); (case hg => rfl); (case hr => first | (go_simp; done) | (go_simp; rfl)); intro gb141 hg w19 hbox hb; have n0_ := Aside0.mk (Kd.R_below (by (with_reducible repeat (first | apply Kd.R_alloc | apply Kd.R_drewN | apply Kd.R_drew)); exact HO139.out) hb); have n1_ := Aside0.mk (below_step (by repeat (first | (with_reducible first | exact HB.out | apply below_alloc | apply pw_below_drewN | apply below_drew1) | exact HB.out)) hb); have n2_ := Aside0.mk (hbox); have n3_ := Aside0.mk ((by rw [hg]; exact (below_size (by repeat (first | (with_reducible first | exact HB.out | apply below_alloc | apply pw_below_drewN | apply below_drew1) | exact HB.out))) : w.heap.size ≤ gb141)); have n4_ := Aside0.mk ((by rw [hg]; exact (below_size (by repeat (first | (with_reducible first | exact HB.out | apply below_alloc | apply pw_below_drewN | apply below_drew1) | exact HB.out))) : w.heap.size ≤ gb141)); clear HO139; clear HB; have HO139 := n0_; have HB := n1_; have BK141 := n2_; have GW141 := n3_; have GE141 := n4_; clear n0_ n1_ n2_ n3_ n4_; clear hb hbox hg; have hcz20_0 : w19.cell? ⟨gb141, 0, none⟩ = some (.int .u8 0) := (blk_cell BK141.out 0).trans rfl; have hcz20_1 : w19.cell? ⟨gb141, 1, none⟩ = some (.string (⟨#[]⟩ : ByteArray)) := (blk_cell BK141.out 1).trans rfl; have hcz20_2 : w19.cell? ⟨gb141, 2, none⟩ = some (.slice none 0 0) := (blk_cell BK141.out 2).trans rfl; have hfz20_0 := blk_frozen BK141.out 0; have hfz20_1 := blk_frozen BK141.out 1; have hfz20_2 := blk_frozen BK141.out 2; obtain ⟨Ao21, co21, eo21⟩ := Kd.R_slice HO139.out; subst eo21))
  go_ret
  exact ⟨by first | rfl | (simp [errW_none, errW_some] <;> rfl) | (simp [*, errW_none, errW_some] <;> rfl), by repeat (first | (with_reducible first | exact HB.out | apply below_alloc | apply pw_below_drewN | apply below_drew1 | refine below_set ?_ GE141.out) | exact HB.out)⟩
end Go.Proofs.YtljkopbalejcgaaDoor.P
end
