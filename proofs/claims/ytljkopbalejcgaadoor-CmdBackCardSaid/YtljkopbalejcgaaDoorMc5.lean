/- CmdBack: what is shown is parsed as it was, whatever letters of its verb are great; what is parsed, shown, is parsed so again, and is the line, but for great and small letters: for any command, any line, any choice of letters. Conditions: the tables of Go's library that the row lists read as the program's start-up lays them (tied to its text). -/
import Derived.Test.YtljkopbalejcgaaDoorMc4
section
set_option linter.unusedVariables false
set_option linter.unusedSimpArgs false
namespace Go.Proofs.YtljkopbalejcgaaDoor.P
open Go Go.RowKit Go.Lib Go.Proofs.YtljkopbalejcgaaDoorW.PrintWords
theorem otherAt_upper (which most : Int) (k : Nat) (c : UInt8) : upper (otherAt which most k c) = upper c := by
 unfold otherAt
 split
 ·rename_i h
  have hl : (isLower c || isUpper c) = true := by
   rw [isLower_eq, isUpper_eq]
   simp only [Bool.or_eq_true, Bool.and_eq_true, decide_eq_true_eq]
   exact h.2.2
  have := bytes_all (fun c => !(isLower c || isUpper c) || upper (c ^^^ 32) == upper c) (by decide +kernel) c
  simp only [hl, Bool.not_true, Bool.false_or] at this
  exact eq_of_beq this
 ·rfl
theorem mapIdx_self (f : Nat → UInt8 → UInt8) (l : List UInt8) (hf : ∀ i c, f i c = c) : l.mapIdx f = l := by
 refine List.ext_getElem? fun j => ?_
 rw [List.getElem?_mapIdx]
 cases l[j]? with
 | none => rfl
 | some c => rw [Option.map_some, hf]
theorem mapIdx_upper (f : Nat → UInt8 → UInt8) (l : List UInt8) (hf : ∀ i c, upper (f i c) = upper c) : (l.mapIdx f).map upper = l.map upper := by
 refine List.ext_getElem? fun j => ?_
 rw [List.getElem?_map, List.getElem?_mapIdx, List.getElem?_map]
 cases l[j]? with
 | none => rfl
 | some c => simp [hf]
theorem word_size (v : Int) (hv : v = 1 ∨ v = 2 ∨ v = 3 ∨ v = 4 ∨ v = 5 ∨ v = 6) : rd ([0, 5, 8, 10, 8, 4, 4] : List Int) v = ((wordB v).size : Int) := by
 rcases hv with rfl | rfl | rfl | rfl | rfl | rfl <;> decide
theorem textL_rest (v : Int) (a : List UInt8) (l : PL) : textL v a l = (wordB v).data.toList ++ restL v a l := rfl
theorem other_text (which : Int) (v : Int) (a : List UInt8) (l : PL) : (textL v a l).mapIdx (otherAt which ((wordB v).size : Int)) = (wordB v).data.toList.mapIdx (otherAt which ((wordB v).size : Int)) ++ restL v a l := by
 rw [textL_rest, List.mapIdx_append]
 congr 1
 refine mapIdx_self _ _ fun i c => ?_
 unfold otherAt
 rw [if_neg (by rw [len_eq]; omega)]
theorem back_j1 (t : ByteArray) (hs : t.size ≤ 140737488351232) : EvF (fun k => mailroomlaw07_CmdBack.j1 k t) true := by
 obtain ⟨v, a, l, e, hp, hcase⟩ := parse_sound t hs
 rcases hcase with ⟨rfl, h510, hpl, hn, ha, hm, hup⟩ | ⟨he, _⟩
 ·have hsz : (textB v a l).size = t.size := by
   have := congrArg List.length hup
   rw [List.length_map, List.length_map, ← textB_data, len_eq, len_eq] at this
   exact this
  have hsh := show_eq v a l (by omega) hpl hn
  rw [if_pos hm, if_neg (by omega)] at hsh
  have hback := parse_show v a l hpl hm (by omega)
  have hsame := same_ev v a l v a l (by omega)
  rw [decide_eq_true ⟨rfl, rfl, rfl⟩] at hsame
  have hmay : EvF (fun k => cmd_May.f k v a l) true := EvF.succ_some fun k => by rw [may_eq k v a l (by omega) hpl, hm]
  have hfin : ((mailroomref07_Great.f (textB v a l)).bind fun t298 => ((mailroomref07_Great.f t).bind fun t299 => (some (t298.toList == t299.toList)))) = some true := by
   unfold mailroomref07_Great.f
   rw [if_pos (by omega), if_pos (by omega)]
   simp only [Option.bind_some]
   rw [Lib.toList_data, Lib.toList_data, textB_data]
   simp [hup]
  refine EvF.succ (g := fun k => (cmd_May.f k v a l).bind fun t296 => if t296 = true then ((cmd_Same.f k v a l v a l).bind fun t297 => if t297 = true then some true else some false) else some false) (EvF.bind hmay (EvF.congr (g := fun k => (cmd_Same.f k v a l v a l).bind fun t297 => if t297 = true then some true else some false) (EvF.bind hsame (EvF.of fun k => rfl)) (fun k => rfl))) fun k => ?_
  rw [mailroomlaw07_CmdBack.j1, hp]
  simp only [Option.bind_some]
  rw [if_pos trivial, hsh]
  simp only [Option.bind_some]
  rw [hback]
  simp only [Option.bind_some]
  rw [if_pos trivial, hfin]
  simp only [if_pos trivial]
 ·refine EvF.succ_some fun k => ?_
  rw [mailroomlaw07_CmdBack.j1, hp]
  simp only [Option.bind_some]
  rw [if_neg he]
theorem back_ev (v : Int) (a : ByteArray) (l : List S49) (t : ByteArray) (which : Int) (hl : l.length ≤ 9223372036854775807) (ht : t.size ≤ 140737488351232) (hw0 : 0 ≤ which) (hw1 : which ≤ 18446744073709551615) :
  EvF (fun k => mailroomlaw07_CmdBack.f k v a l t which) true := by
 have hj0 : EvF (fun k => mailroomlaw07_CmdBack.j0 k t which true v a l) true :=
  EvF.succ (g := fun k => (mailroomlaw07_awake.f k).bind fun t => some t) (EvF.bind awake_ev (EvF.of fun k => rfl)) fun k => by rw [mailroomlaw07_CmdBack.j0, if_pos rfl]
 obtain ⟨r, hr, hf⟩ := long_ev v a l hl
 unfold mailroomlaw07_CmdBack.f
 refine EvF.bind hr ?_
 cases r with
 | true => exact hj0.congr fun k => by rw [if_pos rfl]
 | false =>
  by_cases hbig : (t.size : Int) > 5000
  ·exact hj0.congr fun k => by rw [if_neg (by decide), if_pos hbig]
  ·refine EvF.congr (g := fun k => (mailroomlaw07_awake.f k).bind fun t255 => (mailroomlaw07_CmdBack.j0 k t which (!t255) v a l)) (EvF.bind awake_ev ?_) (fun k => by rw [if_neg (by decide), if_neg hbig])
   obtain ⟨ha, hn, hpl⟩ := hf rfl
   have hsh := show_eq v a l (by omega) hpl hn
   have hj1 := back_j1 t ht
   by_cases g : mayC v a.data.toList (plOf l) = true ∧ (textB v a l).size ≤ 510
   ·obtain ⟨hm, h510⟩ := g
    rw [if_pos hm, if_neg (by omega)] at hsh
    have hv := mayC_verb v _ _ hm
    have hback := parse_show v a l hpl hm h510
    have hsame := same_ev v a l v a l (by omega)
    rw [decide_eq_true ⟨rfl, rfl, rfl⟩] at hsame
    obtain ⟨t', ho, hback'⟩ : ∃ t', mailroomlaw07_other.f (textB v a l) which (rd ([0, 5, 8, 10, 8, 4, 4] : List Int) v) = some t' ∧ cmd_Parse.f t' = some (v, a, l, 0) := by
     refine ⟨⟨((textL v a.data.toList (plOf l)).mapIdx (otherAt which ((wordB v).size : Int))).toArray⟩, ?_, ?_⟩
     ·unfold mailroomlaw07_other.f
      have hwz : (wordB v).size ≤ 10 := by rcases hv with rfl | rfl | rfl | rfl | rfl | rfl <;> decide
      rw [word_size v hv, if_pos ⟨by omega, ⟨hw0, hw1⟩, by omega, by omega⟩, textB_data]
     ·refine parse_back _ v a l ((wordB v).data.toList.mapIdx (otherAt which ((wordB v).size : Int))) hpl hm ?_ ?_ ?_
      ·rw [mk_size, List.length_mapIdx, ← textB_size]; exact h510
      ·rw [mapIdx_upper _ _ (fun i c => otherAt_upper _ _ _ _), word_up]
      ·rw [← other_text]
    refine EvF.succ (g := fun k => (cmd_Same.f k v a l v a l).bind fun t278 => if t278 = true then ((cmd_Same.f k v a l v a l).bind fun t279 => if t279 = true then mailroomlaw07_CmdBack.j1 k t else some false) else some false) ?_ fun k => ?_
    ·refine EvF.bind hsame (EvF.congr (g := fun k => (cmd_Same.f k v a l v a l).bind fun t279 => if t279 = true then mailroomlaw07_CmdBack.j1 k t else some false) (EvF.bind hsame (hj1.congr fun k => by rw [if_pos rfl])) (fun k => by rw [if_pos rfl]))
    ·rw [mailroomlaw07_CmdBack.j0, if_neg (by decide), hsh]
     simp only [Option.bind_some]
     rw [if_pos trivial, hback]
     simp only [Option.bind_some]
     rw [if_pos (by omega), if_pos (by show v < 7; omega), ho]
     simp only [Option.bind_some]
     rw [hback']
     simp only [Option.bind_some, if_pos trivial]
   ·obtain ⟨e, e1, he⟩ : ∃ e, cmd_Show.f v a l = some (⟨#[]⟩, e) ∧ ¬ e = 0 := by
     rw [hsh]
     by_cases g3 : mayC v a.data.toList (plOf l) = true
     ·have g4 : ¬ (textB v a l).size ≤ 510 := fun x => g ⟨g3, x⟩
      rw [if_pos g3, if_pos (by omega)]; exact ⟨40, rfl, by decide⟩
     ·rw [if_neg g3]; exact ⟨4, rfl, by decide⟩
    refine EvF.succ hj1 fun k => ?_
    rw [mailroomlaw07_CmdBack.j0, if_neg (by decide), e1]
    simp only [Option.bind_some]
    rw [if_neg he]
end Go.Proofs.YtljkopbalejcgaaDoor.P
end
section
namespace Go.Proofs.YtljkopbalejcgaaDoor.cmdBack
open Go.ChangeShapes Go.WideShapes Go.ChangeAt Go.RowKit
open Go.ChangeMaps (open_string shut_string)
set_option linter.unusedVariables false
theorem own : ownKnob Tryd.prog.godebug = none := by kernel_rfl
theorem laidOut : laidOutB Tryd.prog = true := by kernel_rfl
theorem gl {W : World} (h : laidMetH Tryd.prog Rows.cmdBackRow.laid W) : P.GL W := P.gl_of h (by kernel_rfl)
set_option maxRecDepth 100000 in
theorem contract (H : Type) (enc : TypeId × Value → H) (W : World) (base : Nat) (args : Array Value) (ds gs : List (DataW H)) (before : List MemPlace)
  (hval0 : ∀ (j : Nat) t v, Tryd.f4.params[j]? = some t → args[j]? = some v → Value.okWide Tryd.prog W .any base t v)
  (hW : DataW.Whole enc Tryd.prog Tryd.f4.params.toList Rows.cmdBackSpec.vars false W args.toList ds gs before)
  (hsz0 : (DataW.weightsEach Tryd.prog (Tryd.f4.params.toList ++ Rows.cmdBackSpec.plain.varTypes Tryd.prog) (ds ++ gs)).all (· ≤ reachBytes) = true) (hL : laidMetH Tryd.prog Rows.cmdBackRow.laid W) :
  Calls Tryd.prog 4 args W fun e W' => ∃ v, e = .returned v ∧ Rows.cmdBackSpec.post enc Tryd.prog Tryd.f4 false true false false W args v W' := by
 have hsz : (DataW.weightsEach Tryd.prog (Tryd.f4.params.toList ++ Rows.cmdBackSpec.plain.varTypes Tryd.prog) (ds ++ gs)).all (· ≤ reachBytes) = true := hsz0
 have hval : ∀ (j : Nat) t v, Tryd.f4.params[j]? = some t → args[j]? = some v → Value.okWide Tryd.prog W .any base t v := hval0
 have hW' := hW
 obtain ⟨p, q, hA0, hV, rfl, hfz, hnd⟩ := hW
 have hA : DataW.TrodAll enc Tryd.prog W 0 (fun _ => true) true Tryd.f4.params.toList args.toList ds p := hA0
 rw [Tryd.params4] at hA hval hsz
 obtain ⟨v0, vs0, d0, ds0, p0, q0, hargs, rfl, rfl, h0, r0⟩ := trodAll_cons hA
 obtain ⟨v1, vs1, d1, ds1, p1, q1, rfl, rfl, rfl, h1, r1⟩ := trodAll_cons r0
 obtain ⟨v2, vs2, d2, ds2, p2, q2, rfl, rfl, rfl, h2, r2⟩ := trodAll_cons r1
 obtain ⟨rfl, rfl, rfl⟩ := trodAll_nil r2
 obtain rfl : args = #[v0, v1, v2] := by cases args; simp_all
 obtain ⟨rfl, rfl⟩ := trodVars_none hV
 obtain ⟨x0, a0, A0, l0, c0, rfl, hC0, hc0, hl0⟩ := P.open_cmd (hval 0 27 v0 rfl rfl) h0
 have lt0 : ∀ x ∈ p0, x.block < W.heap.size := by obtain ⟨m, hm⟩ := h0; exact DataW.trod_lt m _ _ _ hm
 obtain ⟨a1, rfl, rfl, rfl, y1⟩ := open_string Tryd.underlying9 (hval 1 9 v1 rfl rfl) h1
 have w1 : a1.size ≤ 140737488351232 := by
  have z := sized_string hsz (j := 1) (t := 9) rfl rfl
  rw [Array.length_toList] at z
  exact z
 obtain ⟨a2, rfl, rfl, rfl, w2⟩ := open_int Tryd.underlying37 (hval 2 37 v2 rfl rfl) h2
 have z2 : 0 ≤ a2 ∧ a2 ≤ 18446744073709551615 := by
  have w := w2
  simp [Lit.wf, IntKind.min, IntKind.max, IntKind.signed, IntKind.bits] at w
  omega
 clear hA0 hval0 hsz0 hsz
 obtain ⟨k, hk⟩ := P.back_ev x0 a0 l0 a1 a2 hl0 w1 z2.1 z2.2
 refine (P.mailroomlaw07_CmdBack.calls k x0 a0 A0 c0 l0 a1 a2 true W hC0 hc0 (hk k (Nat.le_refl _)) (gl hL)).mono fun e W' ⟨he, bel⟩ => ?_
 subst he
 exact ⟨_, rfl, _, _, _, [], _, [], hW', trodAll_mk1 (shut_bool Tryd.underlying4 _), (trodAll_cons_mk (Below.trod laidOut (by kernel_rfl) (of_decide_eq_true (by kernel_rfl)) h0 bel lt0) (trodAll_cons_mk (shut_string Tryd.underlying9 y1) (trodAll_cons_mk (shut_int Tryd.underlying37 w2) trodAll_mk0))), rfl, bel.frame _, fun h => by cases h⟩
def litCells : DataW Unit → Array Value
 | .agg l => (l.map fun | .lit (.int k n) => .int k n | _ => .bool false).toArray
 | _ => #[]
def fill (cs : Array Value) : Obj → Obj
 | .cells _ t frozen => .cells cs t frozen
 | o => o
noncomputable def laidWorld (os : Os) : World :=
 { World.holding Tryd.prog os ⟨#[], #[], []⟩ with heap := (((World.holding Tryd.prog os ⟨#[], #[], []⟩).heap.modify 1 (fill (litCells Rows.laid_internal_strconv_uint64pow10))).modify 2 (fill (litCells Rows.laid_math_bits_deBruijn32tab))).modify 3 (fill (litCells Rows.laid_math_bits_deBruijn64tab)) }
def wArgs : Array Value := #[.agg #[.int .u8 0, .string ⟨#[]⟩, .slice none 0 0], .string ⟨#[]⟩, .int .u64 0]
theorem laid_met (os : Os) : laidMet Tryd.prog Rows.cmdBackRow.laid ((laidWorld os).forCall (fun _ _ => 0) ⟨#[], wArgs, []⟩).memory :=
 laidMet_of_run' 8 (by kernel_rfl) (by kernel_rfl)
theorem reads (os : Os) {H : Type} (enc : TypeId × Value → H) : ∃ places, DataW.whole enc Tryd.prog ((laidWorld os).forCall (fun _ _ => 0) ⟨#[], wArgs, []⟩).memory Tryd.f4.params.toList Rows.cmdBackSpec.vars false wArgs.toList 8 = some ([.agg [.lit (.int .u8 0), .lit (.string []), .nil], .lit (.string []), .lit (.int .u64 0)], [], places) :=
 ⟨[], by kernel_rfl⟩
set_option maxRecDepth 100000 in
theorem lifted (os : Os) (started : os.Started) (H : Type) (enc : TypeId × Value → H) (F : Stop.Interp) :
  ReturnsInHanded {} Tryd.checked os 4 .any ((OpenSpec.ofChange Rows.cmdBackSpec).preRow enc Tryd.prog Tryd.f4 Rows.cmdBackRow.domain false Rows.cmdBackRow.laid) (((OpenSpec.ofChange Rows.cmdBackSpec).at F).post enc Tryd.prog Tryd.f4 false true false false) := by
 obtain ⟨places, hx⟩ := reads os enc
 refine returnsInHanded_of_row (C := Tryd.checked) (s := OpenSpec.ofChange Rows.cmdBackSpec) own started (by kernel_rfl) Tryd.func4
  (witness_row_at (enc := enc) (C := Tryd.checked) false (laidWorld os) wArgs rfl (by kernel_rfl) (by kernel_rfl) (by kernel_rfl)
   (OpenSpec.preRow_of_cond 8 hx (by kernel_rfl) (fun k hk => by cases hk) (by kernel_rfl) (laid_met os))) ?_
 intro W base args ds gs before hval hW _ _ hsz hL _ _
 exact contract H enc W base args ds gs before hval hW hsz hL
theorem said : Rows.CmdBackSaid :=
 OpenClaim.holds_of_cond 4 Tryd.f4 rfl rfl rfl rfl rfl rfl rfl ⟨rfl, rfl, rfl, rfl, rfl⟩ rfl rfl rfl rfl rfl (by kernel_rfl) Tryd.func4 (by kernel_rfl)
  (of_decide_eq_true (by kernel_rfl)) (by unfold Func.isWrapper; first | (rw [if_pos (by decide +kernel)]; kernel_rfl) | (rw [if_neg (by decide +kernel)]; exact ⟨rfl, rfl⟩))
  (fun os started H enc _ F => by rw [OpenClaim.pre_eq_preRow]; exact lifted os started H enc F)
theorem plain (f : FuncId) (fn : Func) (hf : Tryd.pinned.checked.prog.funcNamed "mailroom/mailroomlaw07.CmdBack" = some f) (hfn : Tryd.pinned.checked.prog.funcs[f]? = some fn) :
  false = Tryd.pinned.checked.prog.looks [] ∧ ∀ (j : Nat) t, fn.params[j]? = some t → Tryd.pinned.checked.prog.wantsStandIn t = false := by
 obtain rfl : f = 4 := Option.some.inj ((show Tryd.prog.funcNamed "mailroom/mailroomlaw07.CmdBack" = some 4 by kernel_rfl).symm.trans hf) |>.symm
 obtain rfl : fn = Tryd.f4 := (Option.some.inj (Tryd.func4.symm.trans hfn)).symm
 refine ⟨by kernel_rfl, fun j t ht => ?_⟩
 have hall : (Tryd.f4.params.toList.all fun t => !Tryd.prog.wantsStandIn t) = true := by kernel_rfl
 have h1 := List.all_eq_true.1 hall t (Array.mem_toList_iff.2 (Array.mem_of_getElem? ht))
 have h2 : Tryd.prog.wantsStandIn t = false := by simpa using h1
 exact h2
theorem card : Rows.CmdBackCardSaid :=
 Claim7.holds_tied_plain_at .later [] _ _ _ _ said (fun _ h => by cases h) (by kernel_rfl) (fun _ h => by cases h) cmdBack_row_tie rfl ⟨rfl, rfl⟩ (by kernel_rfl) rfl plain (by kernel_rfl)
end Go.Proofs.YtljkopbalejcgaaDoor.cmdBack
end
