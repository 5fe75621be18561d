import Derived.Test.YtljkopbalejcgaaGreatDoorMa4
section
namespace Go.Proofs.YtljkopbalejcgaaGreatDoor.P
open Go.RowKit Go.Proofs.YtljkopbalejcgaaGreatDoorW.PrintWords Go.Proofs.YtljkopbalejcgaaGreatDoorW.PrintLast Go.Proofs.YtljkopbalejcgaaGreatDoorW.PrintMore
attribute [local go_sem] max2_int min2_int max_two min_two max_three min_three max_four min_four
set_option linter.unusedVariables false
set_option linter.unusedSimpArgs false
open Go Go.Lib
def toldF : Nat → List UInt8 → List ((List UInt8 × List UInt8) × List UInt8)
 | 0, _ => []
 | k + 1, s => if s = [] then [] else
  if (!Lib.hasPrefix s [32] || !paramOk ((Lib.cut (Lib.cut (Lib.trimPrefix s [32]) [32]).1 [61]).1.map upper) (Lib.cut (Lib.cut (Lib.trimPrefix s [32]) [32]).1 [61]).2.1 || ((Lib.cut (Lib.cut (Lib.trimPrefix s [32]) [32]).1 [61]).2.2 && (Lib.cut (Lib.cut (Lib.trimPrefix s [32]) [32]).1 [61]).2.1.isEmpty)) = true then []
  else (((Lib.cut (Lib.cut (Lib.trimPrefix s [32]) [32]).1 [61]).1.map upper, (Lib.cut (Lib.cut (Lib.trimPrefix s [32]) [32]).1 [61]).2.1), (Lib.cut (Lib.trimPrefix s [32]) [32]).2.1) ::
   toldF k (if (Lib.cut (Lib.trimPrefix s [32]) [32]).2.2 = true then 32 :: (Lib.cut (Lib.trimPrefix s [32]) [32]).2.1 else (Lib.cut (Lib.trimPrefix s [32]) [32]).2.1)
theorem toldF_succ (k : Nat) (s : List UInt8) (h : s ≠ []) : toldF (k + 1) s =
  if (!Lib.hasPrefix s [32] || !paramOk ((Lib.cut (Lib.cut (Lib.trimPrefix s [32]) [32]).1 [61]).1.map upper) (Lib.cut (Lib.cut (Lib.trimPrefix s [32]) [32]).1 [61]).2.1 || ((Lib.cut (Lib.cut (Lib.trimPrefix s [32]) [32]).1 [61]).2.2 && (Lib.cut (Lib.cut (Lib.trimPrefix s [32]) [32]).1 [61]).2.1.isEmpty)) = true then []
  else (((Lib.cut (Lib.cut (Lib.trimPrefix s [32]) [32]).1 [61]).1.map upper, (Lib.cut (Lib.cut (Lib.trimPrefix s [32]) [32]).1 [61]).2.1), (Lib.cut (Lib.trimPrefix s [32]) [32]).2.1) ::
   toldF k (if (Lib.cut (Lib.trimPrefix s [32]) [32]).2.2 = true then 32 :: (Lib.cut (Lib.trimPrefix s [32]) [32]).2.1 else (Lib.cut (Lib.trimPrefix s [32]) [32]).2.1) := by rw [toldF, if_neg h]
theorem grown_of_below {w w' : World} (h : Below w.heap.size w w') (row : Option Nat) : w.grownBy w' row := ⟨h.os, h.tape, h.output, h.size, fun k hk _ => h.block k hk⟩
theorem cut_len1 (l : List UInt8) (c : UInt8) : (Lib.cut l [c]).1.length ≤ l.length := by
 unfold Lib.cut
 split
 ·simp only [List.length_take]; omega
 ·simp
theorem trim_len (l p : List UInt8) : (Lib.trimPrefix l p).length ≤ l.length := by
 unfold Lib.trimPrefix; split
 ·rw [List.length_drop]; omega
 ·exact Nat.le_refl _
theorem trim_lt (l : List UInt8) (h : Lib.hasPrefix l [32] = true) : (Lib.trimPrefix l [32]).length < l.length := by
 cases l with
 | nil => simp [Lib.hasPrefix, List.isPrefixOf] at h
 | cons c r =>
  unfold Lib.trimPrefix; rw [h]
  simp
def encT (x : (List UInt8 × List UInt8) × List UInt8) : Array Value := #[.agg #[.string ⟨x.1.1.toArray⟩, .string ⟨x.1.2.toArray⟩], .string ⟨x.2.toArray⟩]
section
attribute [local go_sem] Oper.semAt_some wide_fn wide_depth
set_option maxHeartbeats 1000000 in
set_option maxRecDepth 100000 in
theorem told_iter (B : Nat) (s : ByteArray) (hs : s.size ≤ 140737488351232) :
  IterB Tryz.prog 65 #[.pointer (some ⟨B, 0, none⟩)] encT (toldF s.size s.data.toList) B (fun W => Boxed W B 9 (.string s)) := by
 intro l J Jx W hW hJ hJx hY h0
 refine callsIn_of_wp Tryz.func65 rfl trivial ?_ rfl
 simp only [Tryz.ntmps65, List.size_toArray, List.length_cons, List.length_nil, Nat.reduceAdd, Nat.reduceSub, Array.replicate_succ, Array.replicate_zero, List.push_toArray, List.append_toArray, List.nil_append, List.cons_append]
 gi_wp2
 gi_loopw [] (fun wr => ∃ (i f : Nat) (r : ByteArray), i ≤ (toldF s.size s.data.toList).length ∧ (toldF s.size s.data.toList).drop i = toldF f r.data.toList ∧ r.size ≤ f ∧ r.size ≤ s.size ∧ Boxed wr B 9 (.string r) ∧ J i wr)
  (fun wr => strLen wr B)
 case atStart => exact ⟨0, s.size, s, Nat.zero_le _, rfl, Nat.le_refl _, Nat.le_refl _, hW, h0⟩
 case round =>
  obtain ⟨i, f, r, hi, hd, hf, hr, hbx, hj⟩ := hrel
  have hc := hbx.cell
  have hfz := hbx.frozen
  generalize hxs : toldF s.size s.data.toList = xs at hd hi hY
  by_cases hr0 : r.data.toList = []
  ·have hre : r.toList.isEmpty = true := by rw [Lib.toList_data, hr0]; rfl
   have hil : i = xs.length := by
    have h1 : xs.drop i = [] := by rw [hd, hr0]; cases f <;> simp [toldF]
    have := List.drop_eq_nil_iff.1 h1
    omega
   have HJ := Aside0.mk (hil ▸ hj)
   have HXS := Aside0.mk hxs
   clear hil hj hd hxs hi
   gi_wp2
   refine bodyPost_end (results_none rfl _ _ _) rfl ?_
   exact ⟨⟨_, rfl⟩, .inl (by rw [HXS.out]; exact HJ.out)⟩
  ·have hre : r.toList.isEmpty = false := by rw [Lib.toList_data]; cases h : r.data.toList with
    | nil => exact absurd h hr0
    | cons _ _ => rfl
   have hrz : 0 < r.size := by
    rw [← len_eq]; exact List.length_pos_iff.2 hr0
   obtain ⟨f', rfl⟩ : ∃ f', f = f' + 1 := ⟨f - 1, by omega⟩
   have hT := toldF_succ f' r.data.toList hr0
   have h1 : ∀ W, Calls Tryz.prog 66 #[.string r, .string ⟨#[32]⟩] W fun e w' => e = .returned (.tuple #[.string ⟨(Lib.trimPrefix r.data.toList [32]).toArray⟩, .bool (Lib.hasPrefix r.data.toList [32])]) ∧ w' = W := fun W => Tryz.strings_CutPrefix r ⟨#[32]⟩ W
   have hl0 : (Lib.trimPrefix r.data.toList [32]).length ≤ r.size := by have := trim_len r.data.toList [32]; rw [len_eq] at this; exact this
   have hl1 : Lib.hasPrefix r.data.toList [32] = true → (Lib.trimPrefix r.data.toList [32]).length < r.size := fun h => by have := trim_lt r.data.toList h; rw [len_eq] at this; exact this
   generalize Lib.trimPrefix r.data.toList [32] = inn at h1 hl0 hl1 hT
   generalize Lib.hasPrefix r.data.toList [32] = is at h1 hl1 hT
   have h2 : ∀ W, Calls Tryz.prog 67 #[.string ⟨inn.toArray⟩, .string ⟨#[32]⟩] W fun e w' => e = .returned (.tuple #[.string ⟨(Lib.cut inn [32]).1.toArray⟩, .string ⟨(Lib.cut inn [32]).2.1.toArray⟩, .bool (Lib.cut inn [32]).2.2]) ∧ ∃ n, w' = W.drewN n := fun W => cut1 ⟨inn.toArray⟩ 32 W (by show inn.toArray.size ≤ _; rw [List.size_toArray]; omega)
   have hl2 := cut_len1 inn 32
   have hl3 := cut_lt inn 32
   generalize Lib.cut inn [32] = c1 at h2 hl2 hl3 hT
   obtain ⟨wd, rest, more⟩ := c1
   simp only at h2 hl2 hl3 hT
   have h3 : ∀ W, Calls Tryz.prog 67 #[.string ⟨wd.toArray⟩, .string ⟨#[61]⟩] W fun e w' => e = .returned (.tuple #[.string ⟨(Lib.cut wd [61]).1.toArray⟩, .string ⟨(Lib.cut wd [61]).2.1.toArray⟩, .bool (Lib.cut wd [61]).2.2]) ∧ ∃ n, w' = W.drewN n := fun W => cut1 ⟨wd.toArray⟩ 61 W (by show wd.toArray.size ≤ _; rw [List.size_toArray]; omega)
   have hl4 := cut_len1 wd 61
   have hl5 := (cut_lt wd 61).1
   generalize Lib.cut wd [61] = c2 at h3 hl4 hl5 hT
   obtain ⟨n, v, has⟩ := c2
   simp only at h3 hl4 hl5 hT
   have h4 : ∀ W, Calls Tryz.prog 43 #[.string ⟨n.toArray⟩] W fun e w' => e = .returned (.string ⟨(n.map upper).toArray⟩) ∧ Below W.heap.size W w' := fun W => great_any ⟨n.toArray⟩ W (by show n.toArray.size ≤ _; rw [List.size_toArray]; omega)
   have hl6 : (n.map upper).length ≤ r.size := by rw [List.length_map]; omega
   generalize n.map upper = gn at h4 hl6 hT
   have h5 : ∀ W, Calls Tryz.prog 55 #[.agg #[.string ⟨gn.toArray⟩, .string ⟨v.toArray⟩]] W fun e w' => e = .returned (.bool (paramOk gn v)) ∧ Below W.heap.size W w' := fun W => cmd_param.calls _ _ _ W (by unfold cmd_param.f; rw [if_pos ⟨by show gn.toArray.size ≤ _; rw [List.size_toArray]; omega, by show v.toArray.size ≤ _; rw [List.size_toArray]; omega⟩])
   generalize paramOk gn v = pk at h5 hT
   have hvz : (⟨v.toArray⟩ : ByteArray).toList.isEmpty = v.isEmpty := by rw [Lib.toList_data]
   generalize hve : v.isEmpty = ve at hvz hT
   clear hl4 hl5
   have HD := Aside0.mk (hd.trans hT)
   have HXS := Aside0.mk hxs
   clear hd hT hxs hr0
   cases hbad : (!is || !pk || (has && ve)) with
   | true =>
    have hil : i = xs.length := by
     have h1 : xs.drop i = [] := by rw [HD.out, if_pos hbad]
     have := List.drop_eq_nil_iff.1 h1
     omega
    have HJ := Aside0.mk (hil ▸ hj)
    clear hil hj hi HD hl0 hl1 hl2 hl3 hl6 hY
    have hcs : is = false ∨ (is = true ∧ pk = false) ∨ (is = true ∧ pk = true ∧ has = true ∧ ve = true) := by
     cases is <;> cases pk <;> cases has <;> cases ve <;> simp_all
    clear hbad
    rcases hcs with rfl | ⟨rfl, rfl⟩ | ⟨rfl, rfl, rfl, rfl⟩
    ·gi_wp2_with (first | (gi_at_call 66; refine (CallsIn.mono (callsIn_wide.2 (h1 _)) ?_); rintro e w' ⟨rfl, hw⟩; obtain rfl := hw.symm; clear hw) | (gi_at_call 67; first | (refine (CallsIn.mono (callsIn_wide.2 (h2 _)) ?_); rintro e w' ⟨rfl, nd, rfl⟩; clear h2) | (refine (CallsIn.mono (callsIn_wide.2 (h3 _)) ?_); rintro e w' ⟨rfl, nd3, rfl⟩; clear h3)) | (gi_at_call 43; refine (CallsIn.mono (callsIn_wide.2 (h4 _)) ?_); rintro e w4 ⟨rfl, hb4⟩; have HB4 : Aside0 (Below wr.heap.size wr w4) := ⟨below_step (pw_below_drewN (Below.refl _ _) (nd + nd3)) hb4⟩; clear hb4 h4) | (gi_at_call 55; refine (CallsIn.mono (callsIn_wide.2 (h5 _)) ?_); rintro e w5 ⟨rfl, hb5⟩; have hk5 := blk_below (heap_alloc_new w4 (.cells #[.string ⟨gn.toArray⟩, .string ⟨v.toArray⟩] 56)) hb5; have hp0 : w5.cell? ⟨w4.heap.size, 0, none⟩ = some (.string ⟨gn.toArray⟩) := blk_cell hk5 0; have hp1 : w5.cell? ⟨w4.heap.size, 1, none⟩ = some (.string ⟨v.toArray⟩) := blk_cell hk5 1; have HB5 : Aside0 (Below wr.heap.size wr w5) := ⟨below_step (below_alloc HB4.out _) hb5⟩; clear hb5 h5 hk5))
     refine bodyPost_ret (results_none rfl _ _ _) rfl ?_
     exact ⟨⟨_, rfl⟩, .inl (by rw [HXS.out]; exact hJ _ _ _ HJ.out (grown_of_below (by first | exact HB5.out | exact below_alloc HB4.out _) _))⟩
    ·gi_wp2_with (first | (gi_at_call 66; refine (CallsIn.mono (callsIn_wide.2 (h1 _)) ?_); rintro e w' ⟨rfl, hw⟩; obtain rfl := hw.symm; clear hw) | (gi_at_call 67; first | (refine (CallsIn.mono (callsIn_wide.2 (h2 _)) ?_); rintro e w' ⟨rfl, nd, rfl⟩; clear h2) | (refine (CallsIn.mono (callsIn_wide.2 (h3 _)) ?_); rintro e w' ⟨rfl, nd3, rfl⟩; clear h3)) | (gi_at_call 43; refine (CallsIn.mono (callsIn_wide.2 (h4 _)) ?_); rintro e w4 ⟨rfl, hb4⟩; have HB4 : Aside0 (Below wr.heap.size wr w4) := ⟨below_step (pw_below_drewN (Below.refl _ _) (nd + nd3)) hb4⟩; clear hb4 h4) | (gi_at_call 55; refine (CallsIn.mono (callsIn_wide.2 (h5 _)) ?_); rintro e w5 ⟨rfl, hb5⟩; have hk5 := blk_below (heap_alloc_new w4 (.cells #[.string ⟨gn.toArray⟩, .string ⟨v.toArray⟩] 56)) hb5; have hp0 : w5.cell? ⟨w4.heap.size, 0, none⟩ = some (.string ⟨gn.toArray⟩) := blk_cell hk5 0; have hp1 : w5.cell? ⟨w4.heap.size, 1, none⟩ = some (.string ⟨v.toArray⟩) := blk_cell hk5 1; have HB5 : Aside0 (Below wr.heap.size wr w5) := ⟨below_step (below_alloc HB4.out _) hb5⟩; clear hb5 h5 hk5))
     refine bodyPost_ret (results_none rfl _ _ _) rfl ?_
     exact ⟨⟨_, rfl⟩, .inl (by rw [HXS.out]; exact hJ _ _ _ HJ.out (grown_of_below (by first | exact HB5.out | exact below_alloc HB4.out _) _))⟩
    ·gi_wp2_with (first | (gi_at_call 66; refine (CallsIn.mono (callsIn_wide.2 (h1 _)) ?_); rintro e w' ⟨rfl, hw⟩; obtain rfl := hw.symm; clear hw) | (gi_at_call 67; first | (refine (CallsIn.mono (callsIn_wide.2 (h2 _)) ?_); rintro e w' ⟨rfl, nd, rfl⟩; clear h2) | (refine (CallsIn.mono (callsIn_wide.2 (h3 _)) ?_); rintro e w' ⟨rfl, nd3, rfl⟩; clear h3)) | (gi_at_call 43; refine (CallsIn.mono (callsIn_wide.2 (h4 _)) ?_); rintro e w4 ⟨rfl, hb4⟩; have HB4 : Aside0 (Below wr.heap.size wr w4) := ⟨below_step (pw_below_drewN (Below.refl _ _) (nd + nd3)) hb4⟩; clear hb4 h4) | (gi_at_call 55; refine (CallsIn.mono (callsIn_wide.2 (h5 _)) ?_); rintro e w5 ⟨rfl, hb5⟩; have hk5 := blk_below (heap_alloc_new w4 (.cells #[.string ⟨gn.toArray⟩, .string ⟨v.toArray⟩] 56)) hb5; have hp0 : w5.cell? ⟨w4.heap.size, 0, none⟩ = some (.string ⟨gn.toArray⟩) := blk_cell hk5 0; have hp1 : w5.cell? ⟨w4.heap.size, 1, none⟩ = some (.string ⟨v.toArray⟩) := blk_cell hk5 1; have HB5 : Aside0 (Below wr.heap.size wr w5) := ⟨below_step (below_alloc HB4.out _) hb5⟩; clear hb5 h5 hk5))
     refine bodyPost_ret (results_none rfl _ _ _) rfl ?_
     exact ⟨⟨_, rfl⟩, .inl (by rw [HXS.out]; exact hJ _ _ _ HJ.out (grown_of_below (by first | exact HB5.out | exact below_alloc HB4.out _) _))⟩
   | false =>
    have hcs : is = true ∧ pk = true ∧ (has && ve) = false := by
     cases is <;> cases pk <;> simp_all
    obtain ⟨rfl, rfl, hhv⟩ := hcs
    have hD := HD.out
    rw [hbad] at hD
    simp only [Bool.false_eq_true, if_false] at hD
    clear hbad HD
    have hil : i < xs.length := by
     have h1 := congrArg List.length hD
     rw [List.length_drop, List.length_cons] at h1; omega
    have hxi : xs[i] = ((gn, v), rest) := by
     have h1 := congrArg (fun l => l[0]?) hD
     simp only [List.getElem?_drop, Nat.add_zero, List.getElem?_cons_zero] at h1
     rw [List.getElem?_eq_getElem hil] at h1
     exact Option.some.inj h1
    have HD2 : Aside0 (xs.drop (i + 1) = toldF f' (if more = true then 32 :: rest else rest)) := ⟨by rw [List.drop_add_one_eq_tail_drop, hD]; rfl⟩
    have hY' : ∀ W1, J i W1 → YieldAt Fence.wide 0 Tryz.prog l #[.agg #[.string ⟨gn.toArray⟩, .string ⟨v.toArray⟩], .string ⟨rest.toArray⟩] W1 fun e W' =>
      (e = .returned (.bool true) ∧ J (i + 1) W' ∧ W1.heap.size ≤ W'.heap.size ∧ W'.heap[B]? = W1.heap[B]?) ∨ (e = .returned (.bool false) ∧ Jx (i + 1) W') := fun W1 h => by
     have := hY i hil W1 h
     rw [hxi] at this
     exact this
    have HYY := Aside0.mk hY'
    have HJ := Aside0.mk hj
    have HI : Aside0 (i < xs.length) := ⟨hil⟩
    clear hY hY' hxi hD hil hi hj
    have hlr := hl1 rfl
    have hqs : ¬ 9223372036854775807 < 1 + rest.toArray.size := by rw [List.size_toArray]; omega
    clear hl0 hl1 hl2 hl6
    have hbx' := Aside0.mk hbx
    cases has with
    | false =>
     gi_wp2_with (first | (gi_at_call 66; refine (CallsIn.mono (callsIn_wide.2 (h1 _)) ?_); rintro e w' ⟨rfl, hw⟩; obtain rfl := hw.symm; clear hw) | (gi_at_call 67; first | (refine (CallsIn.mono (callsIn_wide.2 (h2 _)) ?_); rintro e w' ⟨rfl, nd, rfl⟩; clear h2) | (refine (CallsIn.mono (callsIn_wide.2 (h3 _)) ?_); rintro e w' ⟨rfl, nd3, rfl⟩; clear h3)) | (gi_at_call 43; refine (CallsIn.mono (callsIn_wide.2 (h4 _)) ?_); rintro e w4 ⟨rfl, hb4⟩; have HB4 : Aside0 (Below wr.heap.size wr w4) := ⟨below_step (pw_below_drewN (Below.refl _ _) (nd + nd3)) hb4⟩; clear hb4 h4) | (gi_at_call 55; refine (CallsIn.mono (callsIn_wide.2 (h5 _)) ?_); rintro e w5 ⟨rfl, hb5⟩; have hk5 := blk_below (heap_alloc_new w4 (.cells #[.string ⟨gn.toArray⟩, .string ⟨v.toArray⟩] 56)) hb5; have hp0 : w5.cell? ⟨w4.heap.size, 0, none⟩ = some (.string ⟨gn.toArray⟩) := blk_cell hk5 0; have hp1 : w5.cell? ⟨w4.heap.size, 1, none⟩ = some (.string ⟨v.toArray⟩) := blk_cell hk5 1; have HB5 : Aside0 (Below wr.heap.size wr w5) := ⟨below_step (below_alloc HB4.out _) hb5⟩; obtain ⟨fnY, tmpsY, assignY, bodyY, hy, hR⟩ := HYY.out w5 (hJ _ _ _ HJ.out (grown_of_below HB5.out _)); clear hb5 h5 hk5))
     refine hR.mono ?_
     rintro e W3 (⟨rfl, hJ3, hs3, hB3⟩ | ⟨rfl, hJ3⟩)
     ·have hbx3 : Boxed W3 B 9 (.string r) := hB3.trans ((HB5.out.block B hbx'.out.lt).trans hbx'.out)
      have hc3 := hbx3.cell
      have hf3 := hbx3.frozen
      clear hB3
      cases more with
      | true =>
       have hm := hl3.2 rfl
       have HR2 : Aside0 (((⟨#[32]⟩ : ByteArray) ++ ⟨rest.toArray⟩).data.toList = 32 :: rest ∧ ((⟨#[32]⟩ : ByteArray) ++ ⟨rest.toArray⟩).size = rest.length + 1) := ⟨by constructor; (simp [ByteArray.data_append]); (rw [ByteArray.size_append]; show 1 + rest.toArray.size = _; rw [List.size_toArray]; omega)⟩
       gi_wp2
       go_roundw
       case rel =>
        exact ⟨i + 1, f', _, HI.out, by rw [HD2.out, HR2.out.1]; rfl, by rw [HR2.out.2]; omega, by rw [HR2.out.2]; omega, (hbx3.set _).set _, hJ _ _ _ (hJ _ _ _ hJ3 (grownBy_setCell' _ _ _)) (grownBy_setCell' _ _ _)⟩
       case measure =>
        have h1 := ((hbx3.set (.string ⟨rest.toArray⟩)).set (.string ((⟨#[32]⟩ : ByteArray) ++ ⟨rest.toArray⟩))).cell
        simp only [strLen, h1, hc]
        rw [HR2.out.2]; omega
      | false =>
       have hm := hl3.1
       gi_wp2
       go_roundw
       case rel =>
        exact ⟨i + 1, f', ⟨rest.toArray⟩, HI.out, by rw [HD2.out]; rfl, by show rest.toArray.size ≤ _; rw [List.size_toArray]; omega, by show rest.toArray.size ≤ _; rw [List.size_toArray]; omega, hbx3.set _, hJ _ _ _ hJ3 (grownBy_setCell' _ _ _)⟩
       case measure =>
        have h1 := (hbx3.set (.string ⟨rest.toArray⟩)).cell
        simp only [strLen, h1, hc]
        show rest.toArray.size < _
        rw [List.size_toArray]; omega
     ·gi_wp2
      refine bodyPost_ret (results_none rfl _ _ _) rfl ?_
      exact ⟨⟨_, rfl⟩, .inr ⟨i + 1, by rw [HXS.out]; exact HI.out, hJ3⟩⟩
    | true =>
     have hve2 : ve = false := by simpa using hhv
     subst hve2
     gi_wp2_with (first | (gi_at_call 66; refine (CallsIn.mono (callsIn_wide.2 (h1 _)) ?_); rintro e w' ⟨rfl, hw⟩; obtain rfl := hw.symm; clear hw) | (gi_at_call 67; first | (refine (CallsIn.mono (callsIn_wide.2 (h2 _)) ?_); rintro e w' ⟨rfl, nd, rfl⟩; clear h2) | (refine (CallsIn.mono (callsIn_wide.2 (h3 _)) ?_); rintro e w' ⟨rfl, nd3, rfl⟩; clear h3)) | (gi_at_call 43; refine (CallsIn.mono (callsIn_wide.2 (h4 _)) ?_); rintro e w4 ⟨rfl, hb4⟩; have HB4 : Aside0 (Below wr.heap.size wr w4) := ⟨below_step (pw_below_drewN (Below.refl _ _) (nd + nd3)) hb4⟩; clear hb4 h4) | (gi_at_call 55; refine (CallsIn.mono (callsIn_wide.2 (h5 _)) ?_); rintro e w5 ⟨rfl, hb5⟩; have hk5 := blk_below (heap_alloc_new w4 (.cells #[.string ⟨gn.toArray⟩, .string ⟨v.toArray⟩] 56)) hb5; have hp0 : w5.cell? ⟨w4.heap.size, 0, none⟩ = some (.string ⟨gn.toArray⟩) := blk_cell hk5 0; have hp1 : w5.cell? ⟨w4.heap.size, 1, none⟩ = some (.string ⟨v.toArray⟩) := blk_cell hk5 1; have HB5 : Aside0 (Below wr.heap.size wr w5) := ⟨below_step (below_alloc HB4.out _) hb5⟩; obtain ⟨fnY, tmpsY, assignY, bodyY, hy, hR⟩ := HYY.out w5 (hJ _ _ _ HJ.out (grown_of_below HB5.out _)); clear hb5 h5 hk5))
     refine hR.mono ?_
     rintro e W3 (⟨rfl, hJ3, hs3, hB3⟩ | ⟨rfl, hJ3⟩)
     ·have hbx3 : Boxed W3 B 9 (.string r) := hB3.trans ((HB5.out.block B hbx'.out.lt).trans hbx'.out)
      have hc3 := hbx3.cell
      have hf3 := hbx3.frozen
      clear hB3
      cases more with
      | true =>
       have hm := hl3.2 rfl
       have HR2 : Aside0 (((⟨#[32]⟩ : ByteArray) ++ ⟨rest.toArray⟩).data.toList = 32 :: rest ∧ ((⟨#[32]⟩ : ByteArray) ++ ⟨rest.toArray⟩).size = rest.length + 1) := ⟨by constructor; (simp [ByteArray.data_append]); (rw [ByteArray.size_append]; show 1 + rest.toArray.size = _; rw [List.size_toArray]; omega)⟩
       gi_wp2
       go_roundw
       case rel =>
        exact ⟨i + 1, f', _, HI.out, by rw [HD2.out, HR2.out.1]; rfl, by rw [HR2.out.2]; omega, by rw [HR2.out.2]; omega, (hbx3.set _).set _, hJ _ _ _ (hJ _ _ _ hJ3 (grownBy_setCell' _ _ _)) (grownBy_setCell' _ _ _)⟩
       case measure =>
        have h1 := ((hbx3.set (.string ⟨rest.toArray⟩)).set (.string ((⟨#[32]⟩ : ByteArray) ++ ⟨rest.toArray⟩))).cell
        simp only [strLen, h1, hc]
        rw [HR2.out.2]; omega
      | false =>
       have hm := hl3.1
       gi_wp2
       go_roundw
       case rel =>
        exact ⟨i + 1, f', ⟨rest.toArray⟩, HI.out, by rw [HD2.out]; rfl, by show rest.toArray.size ≤ _; rw [List.size_toArray]; omega, by show rest.toArray.size ≤ _; rw [List.size_toArray]; omega, hbx3.set _, hJ _ _ _ hJ3 (grownBy_setCell' _ _ _)⟩
       case measure =>
        have h1 := (hbx3.set (.string ⟨rest.toArray⟩)).cell
        simp only [strLen, h1, hc]
        show rest.toArray.size < _
        rw [List.size_toArray]; omega
     ·gi_wp2
      refine bodyPost_ret (results_none rfl _ _ _) rfl ?_
      exact ⟨⟨_, rfl⟩, .inr ⟨i + 1, by rw [HXS.out]; exact HI.out, hJ3⟩⟩
end
theorem loop7 {F : Fence} {n : Nat} {P : Program} {c : Code} {Q : Exit → Act → World → Prop} (J : Nat → Act → World → Prop)
    (hstep : ∀ i a w (K : Act → World → Prop), i < 7 → J i a w → (∀ a' w', J (i + 1) a' w' → K a' w') → c.wpIn F n P (Exit.then K Q) a w)
    (hend : ∀ a w (K : Act → World → Prop), J 7 a w → c.wpIn F n P (Exit.then K Q) a w) {a : Act} {w : World} (h0 : J 0 a w) : (Code.loop c).wpIn F n P Q a w := by
  refine wpIn_loop_rounds 8 ?_
  have key : ∀ m i, i + m = 7 → ∀ a w, J i a w → Code.roundsIn F n P c Q (m + 1) a w := by
    intro m
    induction m with
    | zero => intro i hi a w h; rw [roundsIn_succ]; have : i = 7 := by omega
              subst this; exact hend a w _ h
    | succ m ih => intro i hi a w h; rw [roundsIn_succ]; exact hstep i a w _ (by omega) h (fun a' w' h' => ih (i + 1) (by omega) a' w' h')
  exact key 7 0 rfl a w h0
def parMatch (s : ByteArray) (v : Int) : Bool := Lib.hasPrefix (s.data.toList.map upper) (wordB v).data.toList
theorem hasPrefix_head (l p : List UInt8) (c : UInt8) (h : Lib.hasPrefix l (c :: p) = true) : l.head? = some c := by
 cases l with
 | nil => simp [Lib.hasPrefix, List.isPrefixOf] at h
 | cons d r => simp [Lib.hasPrefix, List.isPrefixOf] at h; simp [h.1]
def headB (v : Int) : UInt8 := if v = 1 then 69 else if v = 2 then 83 else if v = 3 then 77 else if v = 4 then 82 else if v = 5 then 68 else 81
theorem parMatch_head (s : ByteArray) (v : Int) (hv : v = 1 ∨ v = 2 ∨ v = 3 ∨ v = 4 ∨ v = 5 ∨ v = 6) (h : parMatch s v = true) : (s.data.toList.map upper).head? = some (headB v) := by
 unfold parMatch at h
 rcases hv with rfl | rfl | rfl | rfl | rfl | rfl
 all_goals exact hasPrefix_head _ _ _ h
theorem parMatch_one (s : ByteArray) (v v' : Int) (hv : v = 1 ∨ v = 2 ∨ v = 3 ∨ v = 4 ∨ v = 5 ∨ v = 6) (hv' : v' = 1 ∨ v' = 2 ∨ v' = 3 ∨ v' = 4 ∨ v' = 5 ∨ v' = 6) (h : parMatch s v = true) (h' : parMatch s v' = true) : v = v' := by
 have h1 := (parMatch_head s v hv h).symm.trans (parMatch_head s v' hv' h')
 have h2 : headB v = headB v' := Option.some.inj h1
 rcases hv with rfl | rfl | rfl | rfl | rfl | rfl <;> rcases hv' with rfl | rfl | rfl | rfl | rfl | rfl <;> first | rfl | (exfalso; revert h2; decide)
abbrev PRes := Int × ByteArray × List S56 × Int
def errP : PRes := (0, ⟨#[]⟩, [], 4)
def toPar (x : (List UInt8 × List UInt8) × List UInt8) : S56 := ⟨⟨x.1.1.toArray⟩, ⟨x.1.2.toArray⟩⟩
def usedF (n : Nat) (ts : List ((List UInt8 × List UInt8) × List UInt8)) : Int := match ts.getLast? with
 | none => 0
 | some x => (n : Int) - x.2.length
def tryV (v : Int) (arg : ByteArray) : Option PRes :=
 if v = 3 ∨ v = 4 then
  (cmd_path.f (arg.size + 1) arg).bind fun q => if 510 < q.2.1.size then none else if q.2.2 = true then
   (if (usedF q.2.1.size (toldF q.2.1.size q.2.1.data.toList) != (q.2.1.size : Int) || Lib.hasSuffix q.2.1.data.toList [32]) = true then some errP
   else (cmd_May.f 1 v q.1 ((toldF q.2.1.size q.2.1.data.toList).map toPar)).bind fun m => some (if m = true then (v, q.1, (toldF q.2.1.size q.2.1.data.toList).map toPar, 0) else errP))
  else some errP
 else (cmd_May.f 1 v arg []).bind fun m => some (if m = true then (v, arg, [], 0) else errP)
def argOf (s : ByteArray) (v : Int) : ByteArray := s.extract (wordB v).size s.size
def cmd_Parse.f (a0 : ByteArray) : Option PRes :=
 if 510 < a0.size then (if a0.size ≤ 140737488351232 then some (0, ⟨#[]⟩, [], 40) else none)
 else match ([1, 2, 3, 4, 5, 6] : List Int).find? (fun v => parMatch a0 v) with
  | none => some errP
  | some v => tryV v (argOf a0 v)
set_option maxHeartbeats 400000 in
theorem told_calls (s : ByteArray) (w : World) :
  Calls Tryz.prog 45 #[.string s] w fun e w' => e = .returned (.func (.func 65) #[] #[.pointer (some ⟨w.heap.size, 0, none⟩)]) ∧ w' = w.alloc (.cells #[.string s] 9) := by
 go_enter Tryz.func45, Tryz.ntmps45
 go_wp2
 go_ret
 exact ⟨rfl, rfl⟩
def litP (s : ByteArray) (g i : Nat) (u : Nat → Value) : Array Value := #[.string s, u 1, .pointer (some ⟨g, 0, none⟩), .int .i64 0, u 4, u 5, u 6, u 7, u 8, u 9, u 10, u 11, u 12, u 13, u 14, u 15, u 16, .agg wordsA, .int .i64 (i : Int), u 19, u 20, u 21, u 22, u 23, u 24, u 25, u 26, u 27, u 28, u 29, u 30, u 31, u 32, u 33, u 34, u 35, u 36, u 37, u 38, u 39, u 40, u 41, u 42, u 43, u 44, u 45, u 46, u 47, u 48, u 49, u 50, u 51, u 52, u 53, u 54, u 55, u 56, u 57, u 58, u 59, u 60, u 61, u 62, u 63, u 64, u 65, u 66, u 67, u 68, u 69, u 70, u 71, u 72, u 73, u 74, u 75, u 76, u 77, u 78, u 79, u 80, u 81, u 82, u 83, u 84, u 85, u 86]
def FrameP (s : ByteArray) (g i : Nat) (ds : List Deferred) (a : Act) : Prop := ∃ u : Nat → Value, a = { tmps := litP s g i u, defers := ds }
theorem FrameP.mk' {s : ByteArray} {g i : Nat} (tmps : Array Value) (ds : List Deferred) (h : tmps = litP s g i (fun n => tmps.getD n undef)) : FrameP s g i ds { tmps := tmps, defers := ds } := ⟨_, by rw [← h]⟩
def markD (D : Nat) : Deferred := { target := .collected D, args := #[] }
def MarksP (w : World) (ds : List Deferred) (W : World) : Prop := ds = [] ∨ ∃ D, ds = [markD D] ∧ w.heap.size < D ∧ W.heap[D]? = some (.deferred (some []))
theorem leave_parse (w : World) (tmps : Array Value) (ds : List Deferred) (W : World) (hds : MarksP w ds W) (r1 : Int) (r2 : ByteArray) (u : Value) (r3 : List S56) (r4 : Int) (ok : Nat → Prop)
  (hg : W.heap[w.heap.size]? = some (.cells #[.int .u8 r1, .string r2, u] 27 (0, 0))) (hs2 : tmps.getD 2 undef = .pointer (some ⟨w.heap.size, 0, none⟩)) (hs3 : tmps.getD 3 undef = .int .i64 r4)
  (hR : Kd.R k56 56 W w.heap.size ok u r3) (hB : Below w.heap.size w W) :
  bodyPostM Fence.wide 0 Tryz.prog Tryz.f21 (fun e w' => ∃ v2_ : Value, e = .returned (.tuple #[.agg #[.int .u8 r1, .string r2, v2_], .int .i64 r4]) ∧ Kd.R k56 56 w' w.heap.size (fun _ => True) v2_ r3 ∧ Below w.heap.size w w') .ret { tmps := tmps, defers := ds } W := by
 rcases hds with rfl | ⟨D, rfl, hD, hk⟩
 ·refine ⟨_, results_ct rfl tmps W w.heap.size 27 #[.int .u8 r1, .string r2, u] (0, 0) _ hs2 hg Tryz.underlying27 rfl (by kernel_rfl), u, by rw [hs3], Kd.R_mono hR (fun _ _ => trivial), hB⟩
 ·have hg' : W.grownBy (W.putObj D (.deferred none)) (some D) := grownBy_putObj' W D _
  have hgk : (W.putObj D (.deferred none)).heap[w.heap.size]? = some (.cells #[.int .u8 r1, .string r2, u] 27 (0, 0)) := (World.putObj_heap_other (by omega)).trans hg
  refine ⟨by simp, .inl ⟨_, _, rfl, run_takeDeferred hk, ?_⟩⟩
  refine ⟨_, results_ct rfl tmps _ w.heap.size 27 #[.int .u8 r1, .string r2, u] (0, 0) _ hs2 hgk Tryz.underlying27 rfl (by kernel_rfl), u, by rw [hs3], ?_, hB.trans (belowK_b (w := w) (Nat.le_refl _) W D _ _ (by omega) hk rfl rfl)⟩
  exact Kd.R_mono (R_grown rfl hR hg' (fun r e => by cases e; exact .inr ⟨_, hk, rfl⟩)) (fun _ _ => trivial)
structure ParseI (w : World) (g6 g8 g10 B : Nat) (v : Int) (q1 q2 : ByteArray) (xs : List S56) (us : Int) (W : World) : Prop where
 R : ∃ u, Kd.R k56 56 W w.heap.size (fun k => k ≠ B) u xs ∧ W.heap[g6]? = some (.cells #[.int .u8 v, .string q1, u] 27 (0, 0))
 B8 : W.heap[g8]? = some (.cells #[.string q2] 9 (0, 0))
 B10 : W.heap[g10]? = some (.cells #[.int .i64 us] 3 (0, 0))
 G : W.heap[w.heap.size]? = some (.cells #[.int .u8 0, .string ⟨#[]⟩, .slice none 0 0] 27 (0, 0))
 Bel : Below w.heap.size w W
theorem cellblk_kept {W W' : World} {row : Option Nat} {g b B : Nat} {cs : Array Value} {t : TypeId} (h : W.heap[g]? = some (.cells cs t (0, 0))) (hg : W.grownBy W' row)
  (hr : ∀ r, row = some r → r = B ∨ (b ≤ r ∧ ∃ o : Obj, W.heap[r]? = some o ∧ o.isCells = false)) (hne : g ≠ B) : W'.heap[g]? = some (.cells cs t (0, 0)) :=
 (hg.block g (blk_lt h) (fun e => by
  rcases hr g e.symm with e' | ⟨_, o, ho, hc⟩
  ·exact hne e'
  ·rw [h] at ho; cases ho; simp [Obj.isCells] at hc)).trans h
theorem ParseI.grown {w : World} {g6 g8 g10 B b : Nat} {v : Int} {q1 q2 : ByteArray} {xs : List S56} {us : Int} {W W' : World} {row : Option Nat} (h : ParseI w g6 g8 g10 B v q1 q2 xs us W) (hg : W.grownBy W' row)
  (hr : ∀ r, row = some r → r = B ∨ (b ≤ r ∧ ∃ o : Obj, W.heap[r]? = some o ∧ o.isCells = false)) (h6 : g6 ≠ B) (h8 : g8 ≠ B) (h10 : g10 ≠ B) (hw : w.heap.size < B) (hwb : w.heap.size ≤ b) : ParseI w g6 g8 g10 B v q1 q2 xs us W' := by
 obtain ⟨u, hR, hk⟩ := h.R
 exact ⟨⟨u, R_grown rfl hR hg (fun r e => (hr r e).elim (fun e' => .inl (fun hne => hne e')) (fun o => .inr o.2)), cellblk_kept hk hg hr h6⟩, cellblk_kept h.B8 hg hr h8, cellblk_kept h.B10 hg hr h10, cellblk_kept h.G hg hr (by omega), below_ownB h.Bel h.Bel.size hg hr hwb (by omega)⟩
theorem ParseI.step {w : World} {g6 g8 g10 B b : Nat} {v : Int} {q1 q2 : ByteArray} {xs : List S56} {us : Int} {W W1 : World} (h : ParseI w g6 g8 g10 B v q1 q2 xs us W) {u v1 : Value} {p : S56} (us' : Int)
  (hR : Kd.R k56 56 W w.heap.size (fun k => k ≠ B) u xs) (hk : W.heap[g6]? = some (.cells #[.int .u8 v, .string q1, u] 27 (0, 0)))
  (HO : Kd.R k56 56 W1 w.heap.size (fun k => k ≠ B) v1 (xs ++ [p])) (hB1 : Below w.heap.size w W1) (hg : W.grownBy W1 u.ownBlock)
  (hBl : B < W.heap.size) (h610 : g6 ≠ g10) (h6 : g6 ≠ B) (h10 : g10 ≠ B) (h86 : g8 ≠ g6) (h810 : g8 ≠ g10) (hw6 : w.heap.size < g6) (hw10 : w.heap.size < g10) :
  KeepsFrom b W ((W1.setCell ⟨g6, 2, none⟩ v1).setCell ⟨g10, 0, none⟩ (.int .i64 us')) ∧ ((W1.setCell ⟨g6, 2, none⟩ v1).setCell ⟨g10, 0, none⟩ (.int .i64 us')).heap[B]? = W.heap[B]? ∧
   ParseI w g6 g8 g10 B v q1 q2 (xs ++ [p]) us' ((W1.setCell ⟨g6, 2, none⟩ v1).setCell ⟨g10, 0, none⟩ (.int .i64 us')) := by
 have n6 : some g6 ≠ u.ownBlock := fun e => ((Kd.R_types hR hk (by decide)).1 _ e.symm).2 rfl
 have n8 : some g8 ≠ u.ownBlock := fun e => ((Kd.R_types hR h.B8 (by decide)).1 _ e.symm).2 rfl
 have n10 : some g10 ≠ u.ownBlock := fun e => ((Kd.R_types hR h.B10 (by decide)).1 _ e.symm).2 rfl
 have nw : some w.heap.size ≠ u.ownBlock := fun e => ((Kd.R_types hR h.G (by decide)).1 _ e.symm).2 rfl
 have nB : some B ≠ u.ownBlock := fun e => hR.1 _ e.symm rfl
 have k6 := blk_grown hk hg n6
 have k8 := blk_grown h.B8 hg n8
 have k10 := blk_grown h.B10 hg n10
 have kw := blk_grown h.G hg nw
 have hko : KeepsOthers W W1 := KeepsOthers.of_grownBy hg (fun j o hj ho => by
  obtain ⟨inner, hown⟩ := Kd.R_own hR
  rcases hown.2 with ⟨hv, _⟩ | ⟨g', cap, cur, hv, _, hh, _⟩
  ·rw [hv] at hj; simp [Value.ownBlock] at hj
  ·rw [hv] at hj
   have : g' = j := by simpa [Value.ownBlock] using hj
   subst this
   rw [ho] at hh; cases hh; rfl)
 have k10' : (W1.setCell ⟨g6, 2, none⟩ v1).heap[g10]? = some (.cells #[.int .i64 us] 3 (0, 0)) := blk_far k10 (p := ⟨g6, 2, none⟩) (fun e => h610 e.symm) v1
 refine ⟨((hko.trans (KeepsOthers.setCell _ _ _)).trans (KeepsOthers.setCell _ _ _)).from b, ?_, ⟨v1, Kd.R_set (Kd.R_set HO k6 (by decide) 2 v1) k10' (by decide) 0 _, ?_⟩, ?_, blk_put k10' 0 _ rfl, ?_, ?_⟩
 ·exact (Below.heap_setCell _ ⟨g10, 0, none⟩ _ B (fun e => h10 e.symm)).trans ((Below.heap_setCell _ ⟨g6, 2, none⟩ _ B (fun e => h6 e.symm)).trans (hg.block B hBl nB))
 ·exact blk_far (blk_put k6 2 v1 rfl) (p := ⟨g10, 0, none⟩) h610 _
 ·exact blk_far (blk_far k8 (p := ⟨g6, 2, none⟩) h86 _) (p := ⟨g10, 0, none⟩) h810 _
 ·exact blk_far (blk_far kw (p := ⟨g6, 2, none⟩) (by show w.heap.size ≠ g6; omega) _) (p := ⟨g10, 0, none⟩) (by show w.heap.size ≠ g10; omega) _
 ·exact (hB1.setCell (p := ⟨g6, 2, none⟩) (by show w.heap.size ≤ g6; omega) _).setCell (p := ⟨g10, 0, none⟩) (by show w.heap.size ≤ g10; omega) _
theorem usedF_succ (n : Nat) (ts : List ((List UInt8 × List UInt8) × List UInt8)) (i : Nat) (h : i < ts.length) : usedF n (ts.take (i + 1)) = (n : Int) - ts[i].2.length := by
 unfold usedF; rw [List.take_succ_eq_append_getElem h, List.getLast?_concat]
theorem toldF_small (k : Nat) : ∀ (s : List UInt8), ∀ x ∈ toldF k s, x.2.length ≤ s.length ∧ x.1.1.length ≤ s.length ∧ x.1.2.length ≤ s.length := by
 induction k with
 | zero => intro s x hx; simp [toldF] at hx
 | succ k ih =>
  intro s x hx
  by_cases h : s = []
  ·simp [toldF, h] at hx
  ·rw [toldF_succ _ _ h] at hx
   have l0 := trim_len s [32]
   have l1 := cut_len1 (Lib.trimPrefix s [32]) 32
   have l2 := cut_lt (Lib.trimPrefix s [32]) 32
   have l3 := cut_len1 (Lib.cut (Lib.trimPrefix s [32]) [32]).1 61
   have l4 := (cut_lt (Lib.cut (Lib.trimPrefix s [32]) [32]).1 61).1
   split at hx
   ·simp at hx
   ·rename_i hb
    have hp : Lib.hasPrefix s [32] = true := by
     cases hq : Lib.hasPrefix s [32] with
     | true => rfl
     | false => exact absurd (by rw [hq]; rfl) hb
    have l5 := trim_lt s hp
    rcases List.mem_cons.1 hx with rfl | hx
    ·simp only [List.length_map]; omega
    ·have := ih _ x hx
     split at this
     ·rename_i hm
      have := l2.2 hm
      simp only [List.length_cons] at *
      omega
     ·omega
theorem toldF_len (k : Nat) : ∀ (s : List UInt8), (toldF k s).length ≤ k := by
 induction k with
 | zero => intro s; simp [toldF]
 | succ k ih =>
  intro s
  by_cases h : s = []
  ·simp [toldF, h]
  ·rw [toldF_succ _ _ h]
   split
   ·simp
   ·simp only [List.length_cons]; have := ih (if (Lib.cut (Lib.trimPrefix s [32]) [32]).2.2 = true then 32 :: (Lib.cut (Lib.trimPrefix s [32]) [32]).2.1 else (Lib.cut (Lib.trimPrefix s [32]) [32]).2.1); omega
def litQ (g6 g8 g10 p : Nat) (rest : ByteArray) (u : Nat → Value) : Array Value := #[u 0, u 1, u 2, u 3, u 4, u 5, .pointer (some ⟨g6, 0, none⟩), u 7, .pointer (some ⟨g8, 0, none⟩), u 9, .pointer (some ⟨g10, 0, none⟩), .pointer (some ⟨p, 0, none⟩), .string rest, u 13, u 14, u 15, u 16, u 17, u 18, u 19, u 20, u 21, u 22, u 23, u 24, u 25, u 26, u 27, u 28, u 29, u 30, u 31, u 32, u 33, u 34, u 35, u 36, u 37, u 38, u 39, u 40, u 41, u 42, u 43, u 44, u 45, u 46, u 47, u 48, u 49, u 50, u 51, u 52, u 53, u 54, u 55, u 56, u 57, u 58, u 59, u 60, u 61, u 62, u 63, u 64, u 65, u 66, u 67, u 68, u 69, u 70, u 71, u 72, u 73, u 74, u 75, u 76, u 77, u 78, u 79, u 80, u 81, u 82, u 83, u 84, u 85, u 86]
def GQ (g6 g8 g10 b : Nat) (x : (List UInt8 × List UInt8) × List UInt8) (a' : Act) (W : World) : Prop := ∃ (u : Nat → Value) (p : Nat), a' = { tmps := litQ g6 g8 g10 p ⟨x.2.toArray⟩ u, defers := [] } ∧ b ≤ p ∧ W.heap[p]? = some (.cells #[.string ⟨x.1.1.toArray⟩, .string ⟨x.1.2.toArray⟩] 56 (0, 0))
theorem GQ.mk' {g6 g8 g10 b : Nat} {x : (List UInt8 × List UInt8) × List UInt8} {tmps : Array Value} {W : World} (p : Nat) (h : tmps = litQ g6 g8 g10 p ⟨x.2.toArray⟩ (fun n => tmps.getD n undef)) (hb : b ≤ p) (hk : W.heap[p]? = some (.cells #[.string ⟨x.1.1.toArray⟩, .string ⟨x.1.2.toArray⟩] 56 (0, 0))) : GQ g6 g8 g10 b x { tmps := tmps, defers := [] } W := ⟨_, p, by rw [← h], hb, hk⟩
theorem gQ_own {g6 g8 g10 b B : Nat} (hbB : B < b) (x : (List UInt8 × List UInt8) × List UInt8) (a' : Act) : OwnB b B (fun (_ : Unit) W => GQ g6 g8 g10 b x a' W) := by
 rintro _ W W' row ⟨u, p, ha, hb, hk⟩ hg hr
 exact ⟨u, p, ha, hb, cellblk_kept hk hg hr (by omega)⟩
section
attribute [local go_sem] Oper.semAt_some wide_fn wide_depth
def ABP (s : ByteArray) (w : World) (res : PRes) (i : Nat) (ds : List Deferred) : Prop :=
 (ds = [] ∧ ∀ j : Nat, 1 ≤ j → j < i → parMatch s (j : Int) = false) ∨ (res = errP ∧ ∀ j : Nat, 1 ≤ j → i ≤ j → j < 7 → parMatch s (j : Int) = false)
theorem MarksP.setCell {w : World} {ds : List Deferred} {W : World} (h : MarksP w ds W) (i : Nat) (u : Value) : MarksP w ds (W.setCell ⟨w.heap.size, i, none⟩ u) := by
 rcases h with h | ⟨D, h1, h2, h3⟩
 ·exact .inl h
 ·exact .inr ⟨D, h1, h2, (Below.heap_setCell W ⟨w.heap.size, i, none⟩ u D (by show D ≠ w.heap.size; omega)).trans h3⟩
theorem MarksP.below {w : World} {ds : List Deferred} {W W' : World} (h : MarksP w ds W) (hb : Below W.heap.size W W') : MarksP w ds W' := by
 rcases h with h | ⟨D, h1, h2, h3⟩
 ·exact .inl h
 ·exact .inr ⟨D, h1, h2, (hb.block D (blk_lt h3)).trans h3⟩
theorem leave_err (w : World) (tmps : Array Value) (ds : List Deferred) (W : World) (hds : MarksP w ds W) (er : Int) (r1 : Int) (r2 : ByteArray) (r3 : List S56) (r4 : Int) (hE : (r1, r2, r3, r4) = (((0 : Int), (⟨#[]⟩ : ByteArray), ([] : List S56), er) : PRes))
  (hg : W.heap[w.heap.size]? = some (.cells #[.int .u8 0, .string ⟨#[]⟩, .slice none 0 0] 27 (0, 0))) (hs2 : tmps.getD 2 undef = .pointer (some ⟨w.heap.size, 0, none⟩)) (hs3 : tmps.getD 3 undef = .int .i64 er) (hB : Below w.heap.size w W) :
  bodyPostM Fence.wide 0 Tryz.prog Tryz.f21 (fun e w' => ∃ v2_ : Value, e = .returned (.tuple #[.agg #[.int .u8 r1, .string r2, v2_], .int .i64 r4]) ∧ Kd.R k56 56 w' w.heap.size (fun _ => True) v2_ r3 ∧ Below w.heap.size w w') .ret { tmps := tmps, defers := ds } (((W.setCell ⟨w.heap.size, 0, none⟩ (.int .u8 0)).setCell ⟨w.heap.size, 1, none⟩ (.string ⟨#[]⟩)).setCell ⟨w.heap.size, 2, none⟩ (.slice none 0 0)) := by
 cases hE
 refine leave_parse w tmps ds _ (((hds.setCell _ _).setCell _ _).setCell _ _) 0 ⟨#[]⟩ (.slice none 0 0) [] er (fun _ => True) ?_ hs2 hs3 (Kd.R_nil _ _ _ _ _) (by repeat (first | exact hB | refine below_set ?_ (Nat.le_refl _)))
 refine blk_put (cs := #[.int .u8 0, .string ⟨#[]⟩, .slice none 0 0]) ?_ 2 _ rfl; refine blk_put (cs := #[.int .u8 0, .string ⟨#[]⟩, .slice none 0 0]) ?_ 1 _ rfl; refine blk_put (cs := #[.int .u8 0, .string ⟨#[]⟩, .slice none 0 0]) ?_ 0 _ rfl; exact hg
theorem leave_ok (w : World) (tmps : Array Value) (ds : List Deferred) (W : World) (hds : MarksP w ds W) (r1 : Int) (r2 : ByteArray) (u : Value) (r3 : List S56) (r4 : Int) (ok : Nat → Prop)
  (hg : W.heap[w.heap.size]? = some (.cells #[.int .u8 0, .string ⟨#[]⟩, .slice none 0 0] 27 (0, 0))) (hs2 : tmps.getD 2 undef = .pointer (some ⟨w.heap.size, 0, none⟩)) (hs3 : tmps.getD 3 undef = .int .i64 r4) (hR : Kd.R k56 56 W w.heap.size ok u r3) (hB : Below w.heap.size w W) :
  bodyPostM Fence.wide 0 Tryz.prog Tryz.f21 (fun e w' => ∃ v2_ : Value, e = .returned (.tuple #[.agg #[.int .u8 r1, .string r2, v2_], .int .i64 r4]) ∧ Kd.R k56 56 w' w.heap.size (fun _ => True) v2_ r3 ∧ Below w.heap.size w w') .ret { tmps := tmps, defers := ds } (((W.setCell ⟨w.heap.size, 0, none⟩ (.int .u8 r1)).setCell ⟨w.heap.size, 1, none⟩ (.string r2)).setCell ⟨w.heap.size, 2, none⟩ u) := by
 refine leave_parse w tmps ds _ (((hds.setCell _ _).setCell _ _).setCell _ _) r1 r2 u r3 r4 (fun _ => True) ?_ hs2 hs3 (Kd.R_mono (Kd.R_far (p := ⟨w.heap.size, 2, none⟩) (Kd.R_far (p := ⟨w.heap.size, 1, none⟩) (Kd.R_far (p := ⟨w.heap.size, 0, none⟩) (Kd.R_types hR hg (by decide)) (fun _ hk => hk.2) (.int .u8 r1)) (fun _ hk => hk.2) (.string r2)) (fun _ hk => hk.2) u) (fun _ _ => trivial)) (by repeat (first | exact hB | refine below_set ?_ (Nat.le_refl _)))
 refine blk_put (cs := #[.int .u8 r1, .string r2, .slice none 0 0]) ?_ 2 _ rfl; refine blk_put (cs := #[.int .u8 r1, .string ⟨#[]⟩, .slice none 0 0]) ?_ 1 _ rfl; refine blk_put (cs := #[.int .u8 0, .string ⟨#[]⟩, .slice none 0 0]) ?_ 0 _ rfl; exact hg
structure PathF (w w3 w4 : World) (i : Int) (arg q1 q2 : ByteArray) : Prop where
 lt : w3.heap.size < w4.heap.size
 ne : ¬ w4.heap.size = w3.heap.size
 K4 : w4.heap[w3.heap.size]? = some (.cells #[.int .u8 i, .string arg, .slice none 0 0] 27 (0, 0))
 G4 : w4.heap[w.heap.size]? = some (.cells #[.int .u8 0, .string ⟨#[]⟩, .slice none 0 0] 27 (0, 0))
 B4 : Below w.heap.size w w4
 wlt : w.heap.size < w3.heap.size
theorem PathF.of {w w3 w4 : World} {i : Int} {arg : ByteArray} (q1 q2 : ByteArray) (hB3 : Below w.heap.size w w3) (hG3 : w3.heap[w.heap.size]? = some (.cells #[.int .u8 0, .string ⟨#[]⟩, .slice none 0 0] 27 (0, 0)))
  (hb : Below (w3.alloc (.cells #[.int .u8 i, .string arg, .slice none 0 0] 27)).heap.size (w3.alloc (.cells #[.int .u8 i, .string arg, .slice none 0 0] 27)) w4) : PathF w w3 w4 i arg q1 q2 := by
 have hal : Below w3.heap.size w3 w4 := below_step (below_alloc (Below.refl _ _) _) hb
 have hk4 := blk_below (heap_alloc_new w3 _) hb
 exact ⟨blk_lt hk4, by have := blk_lt hk4; omega, hk4, blk_below hG3 hal, below_step hB3 hal, blk_lt hG3⟩
section
variable {w w3 w4 : World} {i : Int} {arg q1 q2 : ByteArray} (h : PathF w w3 w4 i arg q1 q2)
include h
theorem PathF.K5 : (w4.alloc (.cells #[.string q2] 9)).heap[w3.heap.size]? = some (.cells #[.int .u8 i, .string arg, .slice none 0 0] 27 (0, 0)) := blk_alloc h.K4 _
theorem PathF.G5 : (w4.alloc (.cells #[.string q2] 9)).heap[w.heap.size]? = some (.cells #[.int .u8 0, .string ⟨#[]⟩, .slice none 0 0] 27 (0, 0)) := blk_alloc h.G4 _
theorem PathF.B5 : Below w.heap.size w (w4.alloc (.cells #[.string q2] 9)) := below_alloc h.B4 _
theorem PathF.k51 : (w4.alloc (.cells #[.string q2] 9)).cell? ⟨w3.heap.size, 1, none⟩ = some (.string arg) := blk_cell h.K5 1
theorem PathF.g50 : (w4.alloc (.cells #[.string q2] 9)).cell? ⟨w.heap.size, 0, none⟩ = some (.int .u8 0) := blk_cell h.G5 0
theorem PathF.g51 : (w4.alloc (.cells #[.string q2] 9)).cell? ⟨w.heap.size, 1, none⟩ = some (.string ⟨#[]⟩) := blk_cell h.G5 1
theorem PathF.g52 : (w4.alloc (.cells #[.string q2] 9)).cell? ⟨w.heap.size, 2, none⟩ = some (.slice none 0 0) := blk_cell h.G5 2
theorem PathF.l58 : (((w4.alloc (.cells #[.string q2] 9)).setCell ⟨w3.heap.size, 1, none⟩ (.string q1)).alloc (.cells #[.int .i64 0] 3)).cell? ⟨w4.heap.size, 0, none⟩ = some (.string q2) :=
 blk_cell (blk_alloc (blk_far (heap_alloc_new w4 (.cells #[.string q2] 9)) (p := ⟨w3.heap.size, 1, none⟩) h.ne (.string q1)) (.cells #[.int .i64 0] 3)) 0
end
set_option maxHeartbeats 40000000 in
set_option maxRecDepth 100000 in
theorem parse_in (s : ByteArray) (w : World) (hs : s.size ≤ 510) (r1 : Int) (r2 : ByteArray) (r3 : List S56) (r4 : Int) (hres : cmd_Parse.f s = some (r1, r2, r3, r4)) :
  CallsIn Fence.wide 0 Tryz.prog 21 #[.string s] w fun e w' => ∃ v2_ : Value, e = .returned (.tuple #[.agg #[.int .u8 r1, .string r2, v2_], .int .i64 r4]) ∧ Kd.R k56 56 w' w.heap.size (fun _ => True) v2_ r3 ∧ Below w.heap.size w w' := by
 have hne : ∀ i : Nat, 1 ≤ i → i < 7 → parMatch s (i : Int) = true → tryV (i : Int) (argOf s (i : Int)) = some (r1, r2, r3, r4) := by
  intro i h1 h7 hm
  unfold cmd_Parse.f at hres
  rw [if_neg (by omega)] at hres
  have hi : (i : Int) = 1 ∨ (i : Int) = 2 ∨ (i : Int) = 3 ∨ (i : Int) = 4 ∨ (i : Int) = 5 ∨ (i : Int) = 6 := by omega
  cases hf : ([1, 2, 3, 4, 5, 6] : List Int).find? (fun v => parMatch s v) with
  | none =>
   have := List.find?_eq_none.1 hf (i : Int) (by simp; omega)
   exact absurd hm this
  | some v =>
   rw [hf] at hres
   have hv := List.mem_of_find?_eq_some hf
   have hpv := List.find?_some hf
   have e : v = (i : Int) := parMatch_one s v (i : Int) (by simpa using hv) hi hpv hm
   rw [← e]; exact hres
 have hnone : (∀ j : Nat, 1 ≤ j → j < 7 → parMatch s (j : Int) = false) → (r1, r2, r3, r4) = errP := by
  intro h
  unfold cmd_Parse.f at hres
  rw [if_neg (by omega)] at hres
  have hf : ([1, 2, 3, 4, 5, 6] : List Int).find? (fun v => parMatch s v) = none := by
   rw [List.find?_eq_none]
   intro v hv
   have hv' : v = 1 ∨ v = 2 ∨ v = 3 ∨ v = 4 ∨ v = 5 ∨ v = 6 := by simpa using hv
   have := h v.toNat (by omega) (by omega)
   rw [show ((v.toNat : Nat) : Int) = v by omega] at this
   simp [this]
  rw [hf] at hres
  exact (Option.some.inj hres).symm
 have HNE := Aside0.mk hne
 have HNONE := Aside0.mk hnone
 clear hne hnone hres
 have h510 : decide (510 < (s.size : Int)) = false := decide_eq_false (by omega)
 refine callsIn_of_wp_marks Tryz.func21 rfl trivial ?_ rfl
 simp only [Tryz.ntmps21, List.size_toArray, List.length_cons, List.length_nil, Nat.reduceAdd, Nat.reduceSub, Array.replicate_succ, Array.replicate_zero, List.push_toArray, List.append_toArray, List.nil_append, List.cons_append]
 gi_wp2_with (gi_at_call 32; refine (CallsIn.mono (callsIn_wide.2 (words_calls _)) ?_); rintro e w2 ⟨rfl, hb⟩; have HK2 := Aside0.mk (blk_below (heap_alloc_new w (.cells #[.int .u8 0, .string ⟨#[]⟩, .slice none 0 0] 27)) hb); have HB2 := Aside0.mk (below_step (below_alloc (Below.refl w.heap.size w) _) hb); clear hb)
 refine loop7 (fun i a W => ∃ ds, FrameP s w.heap.size i ds a ∧ Below w.heap.size w W ∧ W.heap[w.heap.size]? = some (.cells #[.int .u8 0, .string ⟨#[]⟩, .slice none 0 0] 27 (0, 0)) ∧ MarksP w ds W ∧ ABP s w (r1, r2, r3, r4) i ds) ?hstep ?hend ?h0
 case h0 =>
  exact ⟨[], FrameP.mk' _ _ rfl, HB2.out, HK2.out, .inl rfl, .inl ⟨rfl, fun j h1 h2 => absurd h2 (Nat.not_lt_zero _)⟩⟩
 case hend =>
  intro a W K hJ
  obtain ⟨ds, hF, hB, hG, hM, hAB⟩ := hJ
  have HE : Aside0 ((r1, r2, r3, r4) = errP) := ⟨by
   rcases hAB with ⟨_, h⟩ | ⟨h, _⟩
   ·exact HNONE.out (fun j h1 h2 => h j h1 h2)
   ·exact h⟩
  have HB := Aside0.mk hB
  have HG := Aside0.mk hG
  have HM := Aside0.mk hM
  clear hB hG hM hAB HNE HNONE HB2 HK2
  obtain ⟨u, rfl⟩ := hF
  unfold litP
  have hg0 := blk_frozen HG.out 0
  have hg1 := blk_frozen HG.out 1
  have hg2 := blk_frozen HG.out 2
  have hc0 : W.cell? ⟨w.heap.size, 0, none⟩ = some (.int .u8 0) := blk_cell HG.out 0
  have hc1 : W.cell? ⟨w.heap.size, 1, none⟩ = some (.string ⟨#[]⟩) := blk_cell HG.out 1
  have hc2 : W.cell? ⟨w.heap.size, 2, none⟩ = some (.slice none 0 0) := blk_cell HG.out 2
  gi_wp2
  exact leave_err w _ ds W HM.out 4 r1 r2 r3 r4 HE.out HG.out rfl rfl HB.out
 case hstep =>
  intro i a W K hi hJ hK
  obtain ⟨ds, hF, hB, hG, hM, hAB⟩ := hJ
  have HK := Aside0.mk hK
  have HB := Aside0.mk hB
  have HG := Aside0.mk hG
  have HM := Aside0.mk hM
  have HAB := Aside0.mk hAB
  clear hK hB hG hM hAB HB2 HK2
  have hgr : ∀ W, Calls Tryz.prog 43 #[.string s] W fun e w' => e = .returned (.string ⟨(s.data.toList.map upper).toArray⟩) ∧ Below W.heap.size W w' := fun W => great_any s W (by omega)
  have hix : (i : Int) < 7 := by omega
  by_cases hm : i = 0 ∨ parMatch s (i : Int) = false
  ·have hnext : ABP s w (r1, r2, r3, r4) (i + 1) ds := by
    rcases HAB.out with ⟨h1, h2⟩ | ⟨h1, h2⟩
    ·refine .inl ⟨h1, fun j hj1 hj2 => ?_⟩
     by_cases e : j = i
     ·subst e; rcases hm with h | h
      ·omega
      ·exact h
     ·exact h2 j hj1 (by omega)
    ·exact .inr ⟨h1, fun j hj1 hj2 hj3 => h2 j hj1 (by omega) hj3⟩
   have HN := Aside0.mk hnext
   clear hnext HAB HNE HNONE
   obtain ⟨u, rfl⟩ := hF
   unfold litP
   by_cases hi0 : i = 0
   ·subst hi0
    have hrw : ∀ W, (Instr.index 68 (.agg wordsA) (.int .i64 0)).run Tryz.prog W = .ok (.string ⟨#[]⟩) W := fun W => run_words .i64 0 (by decide) W
    clear hm
    gi_wp2
    exact HK.out _ _ ⟨ds, FrameP.mk' _ _ rfl, HB.out, HG.out, HM.out, HN.out⟩
   ·have hv : (i : Int) = 1 ∨ (i : Int) = 2 ∨ (i : Int) = 3 ∨ (i : Int) = 4 ∨ (i : Int) = 5 ∨ (i : Int) = 6 := by omega
    have hrw : ∀ W, (Instr.index 68 (.agg wordsA) (.int .i64 (i : Int))).run Tryz.prog W = .ok (.string (wordB (i : Int))) W := fun W => run_wordB .i64 _ hv W
    have hpm : parMatch s (i : Int) = false := hm.resolve_left hi0
    have hpf : ∀ W, Calls Tryz.prog 42 #[.string ⟨(s.data.toList.map upper).toArray⟩, .string (wordB (i : Int))] W fun e w' => e = .returned (.bool false) ∧ w' = W := fun W => by
     have := Tryz.strings_HasPrefix ⟨(s.data.toList.map upper).toArray⟩ (wordB (i : Int)) W
     rw [show Lib.hasPrefix (⟨(s.data.toList.map upper).toArray⟩ : ByteArray).data.toList (wordB (i : Int)).data.toList = false from hpm] at this
     exact this
    have hwe : (wordB (i : Int)).toList.isEmpty = false := by
     rw [Lib.toList_data]
     rcases hv with h | h | h | h | h | h <;> rw [h] <;> rfl
    generalize wordB (i : Int) = wb at hrw hpf hwe
    clear hm hpm hv
    gi_wp2_with (first | (gi_at_call 43; refine (CallsIn.mono (callsIn_wide.2 (hgr _)) ?_); rintro e w3 ⟨rfl, hb⟩; have HB3 := Aside0.mk (below_step HB.out hb); have HG3 := Aside0.mk (blk_below HG.out hb); have HM3 := Aside0.mk (HM.out.below hb); clear hb) | (gi_at_call 42; refine (CallsIn.mono (callsIn_wide.2 (hpf _)) ?_); rintro e w' ⟨rfl, hw⟩; obtain rfl := hw.symm; clear hw))
    exact HK.out _ _ ⟨ds, FrameP.mk' _ _ rfl, HB3.out, HG3.out, HM3.out, HN.out⟩
  ·have hi1 : 1 ≤ i := by omega
   have hv : (i : Int) = 1 ∨ (i : Int) = 2 ∨ (i : Int) = 3 ∨ (i : Int) = 4 ∨ (i : Int) = 5 ∨ (i : Int) = 6 := by omega
   have hpm : parMatch s (i : Int) = true := by
    cases h : parMatch s (i : Int) with
    | true => rfl
    | false => exact absurd (.inr h) hm
   have hds : ds = [] := by
    rcases HAB.out with ⟨h1, _⟩ | ⟨_, h2⟩
    ·exact h1
    ·have := h2 i hi1 (Nat.le_refl _) hi; rw [hpm] at this; cases this
   subst hds
   have htry := HNE.out i hi1 hi hpm
   have hafter : ∀ ds, (r1, r2, r3, r4) = errP → ABP s w (r1, r2, r3, r4) (i + 1) ds := fun ds he => .inr ⟨he, fun j hj1 hj2 hj3 => by
    cases h : parMatch s (j : Int) with
    | false => rfl
    | true =>
     have := parMatch_one s (i : Int) (j : Int) hv (by omega) hpm h
     omega⟩
   have HA := Aside0.mk hafter
   have HTRY := Aside0.mk htry
   have hle : (wordB (i : Int)).size ≤ s.size := by
    have h1 : (wordB (i : Int)).data.toList.length ≤ (s.data.toList.map upper).length := by
     have h2 := Lib.hasPrefix_of_take (s.data.toList.map upper) (wordB (i : Int)).data.toList
     rw [show Lib.hasPrefix (s.data.toList.map upper) (wordB (i : Int)).data.toList = true from hpm] at h2
     simp only [Bool.and_eq_true, decide_eq_true_eq] at h2
     exact h2.1
    rw [List.length_map, len_eq, len_eq] at h1; exact h1
   clear hafter htry HAB HNE HNONE
   have hrw : ∀ W, (Instr.index 68 (.agg wordsA) (.int .i64 (i : Int))).run Tryz.prog W = .ok (.string (wordB (i : Int))) W := fun W => run_wordB .i64 _ hv W
   have hpf : ∀ W, Calls Tryz.prog 42 #[.string ⟨(s.data.toList.map upper).toArray⟩, .string (wordB (i : Int))] W fun e w' => e = .returned (.bool true) ∧ w' = W := fun W => by
    have := Tryz.strings_HasPrefix ⟨(s.data.toList.map upper).toArray⟩ (wordB (i : Int)) W
    rw [show Lib.hasPrefix (⟨(s.data.toList.map upper).toArray⟩ : ByteArray).data.toList (wordB (i : Int)).data.toList = true from hpm] at this
    exact this
   have hwe : (wordB (i : Int)).toList.isEmpty = false := by
    rw [Lib.toList_data]
    rcases hv with h | h | h | h | h | h <;> rw [h] <;> rfl
   obtain ⟨arg, harg⟩ : ∃ arg, arg = argOf s (i : Int) := ⟨_, rfl⟩
   have harg2 : s.extract (wordB (i : Int)).size s.size = arg := harg.symm
   rw [← harg] at HTRY
   clear harg
   generalize wordB (i : Int) = wb at hrw hpf hwe hle harg2
   have hlez : (wb.size : Int) ≤ (s.size : Int) := by omega
   clear hm hpm
   obtain ⟨u, rfl⟩ := hF
   unfold litP
   have hm8 : (i : Int) % 256 = (i : Int) := by omega
   by_cases hp : (i : Int) = 3 ∨ (i : Int) = 4
   ·have ht := HTRY.out
    unfold tryV at ht
    rw [if_pos hp] at ht
    obtain ⟨⟨q1, q2, is⟩, hpath, ht⟩ := Option.bind_eq_some_iff.1 ht
    simp only at ht
    have hq2 : q2.size ≤ 510 := by
     by_cases h : 510 < q2.size
     ·rw [if_pos h] at ht; cases ht
     ·omega
    rw [if_neg (by omega)] at ht
    have hpc : ∀ W, Calls Tryz.prog 44 #[.string arg] W fun e w' => e = .returned (.tuple #[.string q1, .string q2, .bool is]) ∧ Below W.heap.size W w' := fun W => cmd_path.calls _ arg q1 q2 is W hpath
    clear hpath HTRY
    cases is with
    | false =>
     have HE : Aside0 ((r1, r2, r3, r4) = errP) := ⟨by rw [if_neg (by simp)] at ht; exact (Option.some.inj ht).symm⟩
     clear ht
     by_cases hp3 : (i : Int) = 3
     ·have h3b : ((i : Int) == 3) = true := by rw [hp3]; rfl
      clear hp3 hp hv
      gi_wp2_with (first | (gi_at_call 43; refine (CallsIn.mono (callsIn_wide.2 (hgr _)) ?_); rintro e w3 ⟨rfl, hb⟩; have HB3 := Aside0.mk (below_step HB.out hb); have HG3 := Aside0.mk (blk_below HG.out hb); have HM3 := Aside0.mk (HM.out.below hb); clear hb) | (gi_at_call 42; refine (CallsIn.mono (callsIn_wide.2 (hpf _)) ?_); rintro e w' ⟨rfl, hw⟩; obtain rfl := hw.symm; clear hw) | (gi_at_call 44; refine (CallsIn.mono (callsIn_wide.2 (hpc _)) ?_); rintro e w4 ⟨rfl, hb⟩; have hpf4 := PathF.of q1 q2 HB3.out HG3.out hb; have HP := Aside0.mk hpf4; have k51 := hpf4.k51; have q51 := blk_frozen hpf4.K5 1; have g50 := hpf4.g50; have g51 := hpf4.g51; have g52 := hpf4.g52; have f50 := blk_frozen hpf4.G5 0; have f51 := blk_frozen hpf4.G5 1; have f52 := blk_frozen hpf4.G5 2; have l58 := hpf4.l58; clear hb hpf4))
      exact leave_err w _ [] _ (.inl rfl) 4 r1 r2 r3 r4 HE.out HP.out.G5 rfl rfl HP.out.B5
     ·have h3b : ((i : Int) == 3) = false := beq_eq_false_iff_ne.2 hp3
      have h4b : ((i : Int) == 4) = true := by rw [beq_iff_eq]; omega
      clear hp3 hp hv
      gi_wp2_with (first | (gi_at_call 43; refine (CallsIn.mono (callsIn_wide.2 (hgr _)) ?_); rintro e w3 ⟨rfl, hb⟩; have HB3 := Aside0.mk (below_step HB.out hb); have HG3 := Aside0.mk (blk_below HG.out hb); have HM3 := Aside0.mk (HM.out.below hb); clear hb) | (gi_at_call 42; refine (CallsIn.mono (callsIn_wide.2 (hpf _)) ?_); rintro e w' ⟨rfl, hw⟩; obtain rfl := hw.symm; clear hw) | (gi_at_call 44; refine (CallsIn.mono (callsIn_wide.2 (hpc _)) ?_); rintro e w4 ⟨rfl, hb⟩; have hpf4 := PathF.of q1 q2 HB3.out HG3.out hb; have HP := Aside0.mk hpf4; have k51 := hpf4.k51; have q51 := blk_frozen hpf4.K5 1; have g50 := hpf4.g50; have g51 := hpf4.g51; have g52 := hpf4.g52; have f50 := blk_frozen hpf4.G5 0; have f51 := blk_frozen hpf4.G5 1; have f52 := blk_frozen hpf4.G5 2; have l58 := hpf4.l58; clear hb hpf4))
      exact leave_err w _ [] _ (.inl rfl) 4 r1 r2 r3 r4 HE.out HP.out.G5 rfl rfl HP.out.B5
    | true =>
     rw [if_pos rfl] at ht
     have h34 : ((i : Int) == 3) = true ∨ (((i : Int) == 3) = false ∧ ((i : Int) == 4) = true) := by
      by_cases hp3 : (i : Int) = 3
      ·exact .inl (by rw [hp3]; rfl)
      ·exact .inr ⟨beq_eq_false_iff_ne.2 hp3, by rw [beq_iff_eq]; omega⟩
     have htold : ∀ W, Calls Tryz.prog 45 #[.string q2] W fun e w' => e = .returned (.func (.func 65) #[] #[.pointer (some ⟨W.heap.size, 0, none⟩)]) ∧ w' = W.alloc (.cells #[.string q2] 9) := fun W => told_calls q2 W
     have HTT := Aside0.mk ht
     clear ht hp hv
     rcases h34 with h3b | ⟨h3b, h4b⟩
     ·gi_wp2_with (first | (gi_at_call 43; refine (CallsIn.mono (callsIn_wide.2 (hgr _)) ?_); rintro e w3 ⟨rfl, hb⟩; have HB3 := Aside0.mk (below_step HB.out hb); have HG3 := Aside0.mk (blk_below HG.out hb); have HM3 := Aside0.mk (HM.out.below hb); clear hb) | (gi_at_call 42; refine (CallsIn.mono (callsIn_wide.2 (hpf _)) ?_); rintro e w' ⟨rfl, hw⟩; obtain rfl := hw.symm; clear hw) | (gi_at_call 44; refine (CallsIn.mono (callsIn_wide.2 (hpc _)) ?_); rintro e w4 ⟨rfl, hb⟩; have hpf4 := PathF.of q1 q2 HB3.out HG3.out hb; have HP := Aside0.mk hpf4; have k51 := hpf4.k51; have q51 := blk_frozen hpf4.K5 1; have g50 := hpf4.g50; have g51 := hpf4.g51; have g52 := hpf4.g52; have f50 := blk_frozen hpf4.G5 0; have f51 := blk_frozen hpf4.G5 1; have f52 := blk_frozen hpf4.G5 2; have l58 := hpf4.l58; clear hb hpf4) | (gi_at_call 45; refine (CallsIn.mono (callsIn_wide.2 (htold _)) ?_); rintro e w' ⟨rfl, hw⟩; obtain rfl := hw.symm; clear hw))
      have hp4 := HP.out
      have hw3 : w.heap.size < w3.heap.size := hp4.wlt
      have hw34 : w3.heap.size < w4.heap.size := hp4.lt
      obtain ⟨ts, hts⟩ : ∃ ts, toldF q2.size q2.data.toList = ts := ⟨_, rfl⟩
      have hsm : ∀ x ∈ ts, x.2.length ≤ q2.size := fun x hx => by have := (toldF_small q2.size q2.data.toList x (hts ▸ hx)).1; rwa [len_eq] at this
      have htl : ts.length ≤ 1000 := by have := toldF_len q2.size q2.data.toList; rw [hts] at this; omega
      have hit := told_iter (w4.heap.size + 1 + 1) q2 (by omega)
      rw [hts] at hit HTT
      have hI0 : ParseI w w3.heap.size w4.heap.size (w4.heap.size + 1) (w4.heap.size + 1 + 1) (i : Int) q1 q2 (ts.take 0 |>.map toPar) (usedF q2.size (ts.take 0)) ((((w4.alloc (.cells #[.string q2] 9)).setCell ⟨w3.heap.size, 1, none⟩ (.string q1)).alloc (.cells #[.int .i64 0] 3)).alloc (.cells #[.string q2] 9)) := by
       refine ⟨⟨.slice none 0 0, Kd.R_nil _ _ _ _ _, ?_⟩, ?_, ?_, ?_, ?_⟩
       ·exact blk_alloc (blk_alloc (blk_put hp4.K5 1 (.string q1) rfl) _) _
       ·exact blk_alloc (blk_alloc (blk_far (heap_alloc_new w4 (.cells #[.string q2] 9)) (p := ⟨w3.heap.size, 1, none⟩) hp4.ne _) _) _
       ·refine blk_alloc ?_ _
        have := heap_alloc_new ((w4.alloc (.cells #[.string q2] 9)).setCell ⟨w3.heap.size, 1, none⟩ (.string q1)) (.cells #[.int .i64 0] 3)
        rw [World.size_setCell, World.size_alloc] at this
        exact this
       ·exact blk_alloc (blk_alloc (blk_far hp4.G5 (p := ⟨w3.heap.size, 1, none⟩) (by show w.heap.size ≠ w3.heap.size; omega) _) _) _
       ·exact below_alloc (below_alloc (hp4.B5.setCell (p := ⟨w3.heap.size, 1, none⟩) (by show w.heap.size ≤ w3.heap.size; omega) _) _) _
      have hsz : ((((w4.alloc (.cells #[.string q2] 9)).setCell ⟨w3.heap.size, 1, none⟩ (.string q1)).alloc (.cells #[.int .i64 0] 3)).alloc (.cells #[.string q2] 9)).heap.size = w4.heap.size + 1 + 1 + 1 := by simp
      have hbox : ((((w4.alloc (.cells #[.string q2] 9)).setCell ⟨w3.heap.size, 1, none⟩ (.string q1)).alloc (.cells #[.int .i64 0] 3)).alloc (.cells #[.string q2] 9)).heap[w4.heap.size + 1 + 1]? = some (.cells #[.string q2] 9 (0, 0)) := by
       have := heap_alloc_new (((w4.alloc (.cells #[.string q2] 9)).setCell ⟨w3.heap.size, 1, none⟩ (.string q1)).alloc (.cells #[.int .i64 0] 3)) (.cells #[.string q2] 9)
       rw [World.size_alloc, World.size_setCell, World.size_alloc] at this
       exact this
      clear k51 q51 g50 g51 g52 f50 f51 f52 l58
      generalize ((((w4.alloc (.cells #[.string q2] 9)).setCell ⟨w3.heap.size, 1, none⟩ (.string q1)).alloc (.cells #[.int .i64 0] 3)).alloc (.cells #[.string q2] 9)) = W0 at hI0 hsz hbox ⊢
      have HSZ := Aside0.mk hsz
      refine wpIn_rangeB2 (gf := 65) (lb := #[.pointer (some ⟨w4.heap.size + 1 + 1, 0, none⟩)]) rfl (enters_of Tryz.func65 (by kernel_rfl) rfl) hit (by omega)
       (fun W hb => (hb.block _ (by omega)).trans hbox) (fun _ => rfl)
       (fun j W => ParseI w w3.heap.size w4.heap.size (w4.heap.size + 1) (w4.heap.size + 1 + 1) (i : Int) q1 q2 ((ts.take j).map toPar) (usedF q2.size (ts.take j)) W)
       (fun c j W => False)
       (fun j A A' row hs hg hr => hs.grown hg hr (by omega) (by omega) (by omega) (by omega) (by omega))
       (fun c j A A' row hs hg hr => hs)
       hI0
       (fun x a' W => GQ w3.heap.size w4.heap.size (w4.heap.size + 1) W0.heap.size x a' W) (fun x a' => gQ_own (by omega) x a') ?assign ?body ?done ?stop
      case assign =>
       intro l x W K hbW hK
       clear HTT HA HP hit hI0 hbox HSZ
       simp only [encT]
       gi_wp2
       exact hK _ _ (below_alloc (Below.refl _ _) _) (GQ.mk' W.heap.size rfl hbW (heap_alloc_new W _))
      case stop => exact fun _ _ _ _ _ _ h => h.elim
      case body =>
       rintro l j hj a' W hbW hI ⟨u, p, rfl, hp, hkp⟩
       obtain ⟨us, hR, hk6⟩ := hI.R
       obtain ⟨Au, cu, rfl⟩ := Kd.R_slice hR
       have hI' := Aside0.mk hI
       have hR' := Aside0.mk hR
       have hk6' := Aside0.mk hk6
       have hp0 : W.cell? ⟨p, 0, none⟩ = some (.string ⟨ts[j].1.1.toArray⟩) := blk_cell hkp 0
       have hp1 : W.cell? ⟨p, 1, none⟩ = some (.string ⟨ts[j].1.2.toArray⟩) := blk_cell hkp 1
       have hc62 : W.cell? ⟨w3.heap.size, 2, none⟩ = some (.slice Au ((ts.take j).map toPar).length cu) := blk_cell hk6 2
       have hlj : ((ts.take j).map toPar).length ≤ 1000 := by rw [List.length_map, List.length_take]; omega
       have hxl := hsm _ (List.getElem_mem hj)
       have hus : (q2.size : Int) - ts[j].2.toArray.size = usedF q2.size (ts.take (j + 1)) := by rw [usedF_succ _ _ _ hj, List.size_toArray]
       have hpar : (ts.take (j + 1)).map toPar = (ts.take j).map toPar ++ [(⟨⟨ts[j].1.1.toArray⟩, ⟨ts[j].1.2.toArray⟩⟩ : S56)] := by rw [List.take_succ_eq_append_getElem hj, List.map_append]; rfl
       have HUS := Aside0.mk hus
       have HPAR := Aside0.mk hpar
       have HBW : Aside0 (w4.heap.size + 1 + 1 < W.heap.size) := ⟨by have := HSZ.out; omega⟩
       have hxl2 : ts[j].2.toArray.size ≤ q2.size := by rw [List.size_toArray]; exact hxl
       clear hI hR hk6 hkp hus hpar hbW HTT HA HP hit hI0 hbox HSZ hxl
       generalize (ts.take j).map toPar = row at hI' hR' hk6' hc62 hlj HPAR
       generalize ts[j].2.toArray = rst at HUS hxl2
       generalize ts[j].1.1.toArray = xn at hp0 HPAR
       generalize ts[j].1.2.toArray = xv at hp1 HPAR
       unfold litQ
       gi_wp2_with (gi_at_builtin; refine R_appendIn k56 (w0 := w) w.heap.size rfl (.tmp 63) (.tmp 65) 25 56 (.agg #[(.string ⟨#[]⟩), (.string ⟨#[]⟩)]) 32 rfl Tryz.underlying25 info56 rfl (by decide) (by omega) (.slice Au row.length cu) row ⟨⟨xn⟩, ⟨xv⟩⟩ [.string ⟨xn⟩, .string ⟨xv⟩] (fun k => k ≠ w4.heap.size + 1 + 1) (fun _ => False) rfl rfl ?aP (fun _ hk => hk.elim) ?aF ?aO ?aB ?aS ?aL ?_; (case aP => exact k56_mkM _ _ _ _); (case aF => exact fun k hk => by have := HBW.out; omega); (case aO => exact hR'.out); (case aB => exact hI'.out.Bel); (case aS => exact hI'.out.Bel.size); (case aL => omega); intro v1 W1 ho hb hgr hat; have hk61 := blk_grown hk6'.out hgr (fun e => ((Kd.R_types hR'.out hk6'.out (by decide)).1 _ e.symm).2 rfl); have hk81 := blk_grown hI'.out.B8 hgr (fun e => ((Kd.R_types hR'.out hI'.out.B8 (by decide)).1 _ e.symm).2 rfl); have hk101 := blk_grown hI'.out.B10 hgr (fun e => ((Kd.R_types hR'.out hI'.out.B10 (by decide)).1 _ e.symm).2 rfl); obtain ⟨A1, c1, rfl⟩ := Kd.R_slice ho; have m62 : W1.cell? ⟨w3.heap.size, 2, none⟩ = some (.slice Au row.length cu) := blk_cell hk61 2; have m62f := blk_frozen hk61 2; have hk82 : (W1.setCell ⟨w3.heap.size, 2, none⟩ (.slice A1 (row.length + 1) c1)).heap[w4.heap.size]? = some (.cells #[.string q2] 9 (0, 0)) := blk_far hk81 (p := ⟨w3.heap.size, 2, none⟩) (by show w4.heap.size ≠ w3.heap.size; omega) _; have m8 : (W1.setCell ⟨w3.heap.size, 2, none⟩ (.slice A1 (row.length + 1) c1)).cell? ⟨w4.heap.size, 0, none⟩ = some (.string q2) := blk_cell hk82 0; have hk102 : (W1.setCell ⟨w3.heap.size, 2, none⟩ (.slice A1 (row.length + 1) c1)).heap[w4.heap.size + 1]? = some (.cells #[.int .i64 _] 3 (0, 0)) := blk_far hk101 (p := ⟨w3.heap.size, 2, none⟩) (by show w4.heap.size + 1 ≠ w3.heap.size; omega) _; have m10 := blk_cell hk102 0; have m10f := blk_frozen hk102 0; simp only [List.getElem?_toArray, List.getElem?_cons_zero] at m10; have HO := Aside0.mk ho; have HB1 := Aside0.mk hb; have HGR := Aside0.mk hgr; clear hk61 hk81 hk101 hk82 hk102 ho hb hgr hat)
       have ho := HO.out
       rw [show (row ++ [(⟨⟨xn⟩, ⟨xv⟩⟩ : S56)]).length = row.length + 1 from by simp] at ho
       obtain ⟨s1, s2, s3⟩ := ParseI.step (b := W0.heap.size) hI'.out ((q2.size : Int) - rst.size) hR'.out hk6'.out ho HB1.out HGR.out HBW.out (by omega) (by omega) (by omega) (by omega) (by omega) (by omega) (by omega)
       exact ⟨s1, s2, by show ParseI w w3.heap.size w4.heap.size (w4.heap.size + 1) (w4.heap.size + 1 + 1) (i : Int) q1 q2 ((ts.take (j + 1)).map toPar) (usedF q2.size (ts.take (j + 1))) _; rw [HPAR.out, ← HUS.out]; exact s3⟩
      case done =>
       intro D W hD hI hk
       have hI2 : ParseI w w3.heap.size w4.heap.size (w4.heap.size + 1) (w4.heap.size + 1 + 1) (i : Int) q1 q2 (ts.map toPar) (usedF q2.size ts) W := by have := hI; rwa [List.take_length] at this
       obtain ⟨us6, hR, hk6⟩ := hI2.R
       obtain ⟨Au, cu, rfl⟩ := Kd.R_slice hR
       have hI' := Aside0.mk hI2
       have hR' := Aside0.mk hR
       have hk6' := Aside0.mk hk6
       have HM' : Aside0 (MarksP w [markD D] W) := ⟨.inr ⟨D, rfl, by omega, hk⟩⟩
       have hc10 : W.cell? ⟨w4.heap.size + 1, 0, none⟩ = some (.int .i64 (usedF q2.size ts)) := blk_cell hI2.B10 0
       have hc8 : W.cell? ⟨w4.heap.size, 0, none⟩ = some (.string q2) := blk_cell hI2.B8 0
       have hz0 : W.cell? ⟨w.heap.size, 0, none⟩ = some (.int .u8 0) := blk_cell hI2.G 0
       have hz1 : W.cell? ⟨w.heap.size, 1, none⟩ = some (.string ⟨#[]⟩) := blk_cell hI2.G 1
       have hz2 : W.cell? ⟨w.heap.size, 2, none⟩ = some (.slice none 0 0) := blk_cell hI2.G 2
       have hy0 := blk_frozen hI2.G 0
       have hy1 := blk_frozen hI2.G 1
       have hy2 := blk_frozen hI2.G 2
       have hx0 : W.cell? ⟨w3.heap.size, 0, none⟩ = some (.int .u8 (i : Int)) := blk_cell hk6 0
       have hx1 : W.cell? ⟨w3.heap.size, 1, none⟩ = some (.string q1) := blk_cell hk6 1
       have hx2 : W.cell? ⟨w3.heap.size, 2, none⟩ = some (.slice Au (ts.map toPar).length cu) := blk_cell hk6 2
       have hsf : ∀ W, Calls Tryz.prog 46 #[.string q2, .string ⟨#[32]⟩] W fun e w' => e = .returned (.bool (Lib.hasSuffix q2.data.toList [32])) ∧ w' = W := fun W => Tryz.strings_HasSuffix q2 ⟨#[32]⟩ W (by omega)
       have hmcall : ∀ m, cmd_May.f 1 (i : Int) q1 (ts.map toPar) = some m → ∀ W2, Below W.heap.size W W2 → Calls Tryz.prog 18 #[.agg #[.int .u8 (i : Int), .string q1, .slice Au (ts.map toPar).length cu]] W2 fun e w' => e = .returned (.bool m) ∧ Below W2.heap.size W2 w' := fun m hm W2 hb =>
        cmd_May.calls 1 (i : Int) q1 Au cu (ts.map toPar) m W2 (Kd.C_below (Kd.R_reads' hR).2.2 hb) (Kd.R_reads' hR).2.1 hm
       have ht := HTT.out
       clear hI hI2 hR hk6 hk hit hI0 hbox HSZ hsm htl HTT HP hts
       generalize usedF q2.size ts = us at hc10 ht hI'
       generalize ts.map toPar = row at hx2 ht hI' hR' hk6' hmcall
       generalize Lib.hasSuffix q2.data.toList [32] = sb at hsf ht
       cases hub : (us != (q2.size : Int)) with
       | true =>
        have HE : Aside0 ((r1, r2, r3, r4) = errP) := ⟨by rw [hub] at ht; simpa using ht.symm⟩
        clear ht hmcall
        gi_wp2
        exact leave_err w _ _ W HM'.out 4 r1 r2 r3 r4 HE.out hI'.out.G rfl rfl hI'.out.Bel
       | false =>
        cases sb with
        | true =>
         have HE : Aside0 ((r1, r2, r3, r4) = errP) := ⟨by simpa using ht.symm⟩
         clear ht hmcall
         gi_wp2_with (gi_at_call 46; refine (CallsIn.mono (callsIn_wide.2 (hsf _)) ?_); rintro e w' ⟨rfl, hw⟩; obtain rfl := hw.symm; clear hw)
         exact leave_err w _ _ W HM'.out 4 r1 r2 r3 r4 HE.out hI'.out.G rfl rfl hI'.out.Bel
        | false =>
         rw [hub] at ht
         simp only [Bool.or_self, Bool.false_eq_true, if_false] at ht
         obtain ⟨m, hmay, ht⟩ := Option.bind_eq_some_iff.1 ht
         have hmc := hmcall m hmay
         have HT := Aside0.mk (Option.some.inj ht)
         clear ht hmcall hmay
         cases m with
         | false =>
          gi_wp2_with (first | (gi_at_call 46; refine (CallsIn.mono (callsIn_wide.2 (hsf _)) ?_); rintro e w' ⟨rfl, hw⟩; obtain rfl := hw.symm; clear hw) | (gi_at_call 18; refine (CallsIn.mono (callsIn_wide.2 (hmc _ (Below.refl _ _))) ?_); rintro e w5 ⟨rfl, hb⟩; have hg5 := blk_below hI'.out.G hb; have hk5 := blk_below hk6'.out hb; have HG5 := Aside0.mk hg5; have HB5 := Aside0.mk (below_step hI'.out.Bel hb); have HM5 := Aside0.mk (HM'.out.below hb); have HR5 := Aside0.mk (Kd.R_below hR'.out hb); have hc0 := blk_cell hk5 0; have hc1 := blk_cell hk5 1; have hc2 := blk_cell hk5 2; have hd0 := blk_cell hg5 0; have hd1 := blk_cell hg5 1; have hd2 := blk_cell hg5 2; have hf0 := blk_frozen hg5 0; have hf1 := blk_frozen hg5 1; have hf2 := blk_frozen hg5 2; simp only [List.getElem?_toArray, List.getElem?_cons_zero, List.getElem?_cons_succ] at hc0 hc1 hc2 hd0 hd1 hd2; clear hb hg5 hk5))
          exact HK.out _ _ ⟨[markD D], FrameP.mk' _ _ rfl, HB5.out, HG5.out, HM5.out, HA.out [markD D] (by have := HT.out; simpa using this.symm)⟩
         | true =>
          gi_wp2_with (first | (gi_at_call 46; refine (CallsIn.mono (callsIn_wide.2 (hsf _)) ?_); rintro e w' ⟨rfl, hw⟩; obtain rfl := hw.symm; clear hw) | (gi_at_call 18; refine (CallsIn.mono (callsIn_wide.2 (hmc _ (Below.refl _ _))) ?_); rintro e w5 ⟨rfl, hb⟩; have hg5 := blk_below hI'.out.G hb; have hk5 := blk_below hk6'.out hb; have HG5 := Aside0.mk hg5; have HB5 := Aside0.mk (below_step hI'.out.Bel hb); have HM5 := Aside0.mk (HM'.out.below hb); have HR5 := Aside0.mk (Kd.R_below hR'.out hb); have hc0 := blk_cell hk5 0; have hc1 := blk_cell hk5 1; have hc2 := blk_cell hk5 2; have hd0 := blk_cell hg5 0; have hd1 := blk_cell hg5 1; have hd2 := blk_cell hg5 2; have hf0 := blk_frozen hg5 0; have hf1 := blk_frozen hg5 1; have hf2 := blk_frozen hg5 2; simp only [List.getElem?_toArray, List.getElem?_cons_zero, List.getElem?_cons_succ] at hc0 hc1 hc2 hd0 hd1 hd2; clear hb hg5 hk5))
          have h := HT.out
          simp only [if_true] at h
          cases h
          exact leave_ok w _ [markD D] w5 HM5.out _ _ _ _ 0 (fun k => k ≠ w4.heap.size + 1 + 1) HG5.out rfl rfl HR5.out HB5.out
     ·gi_wp2_with (first | (gi_at_call 43; refine (CallsIn.mono (callsIn_wide.2 (hgr _)) ?_); rintro e w3 ⟨rfl, hb⟩; have HB3 := Aside0.mk (below_step HB.out hb); have HG3 := Aside0.mk (blk_below HG.out hb); have HM3 := Aside0.mk (HM.out.below hb); clear hb) | (gi_at_call 42; refine (CallsIn.mono (callsIn_wide.2 (hpf _)) ?_); rintro e w' ⟨rfl, hw⟩; obtain rfl := hw.symm; clear hw) | (gi_at_call 44; refine (CallsIn.mono (callsIn_wide.2 (hpc _)) ?_); rintro e w4 ⟨rfl, hb⟩; have hpf4 := PathF.of q1 q2 HB3.out HG3.out hb; have HP := Aside0.mk hpf4; have k51 := hpf4.k51; have q51 := blk_frozen hpf4.K5 1; have g50 := hpf4.g50; have g51 := hpf4.g51; have g52 := hpf4.g52; have f50 := blk_frozen hpf4.G5 0; have f51 := blk_frozen hpf4.G5 1; have f52 := blk_frozen hpf4.G5 2; have l58 := hpf4.l58; clear hb hpf4) | (gi_at_call 45; refine (CallsIn.mono (callsIn_wide.2 (htold _)) ?_); rintro e w' ⟨rfl, hw⟩; obtain rfl := hw.symm; clear hw))
      have hp4 := HP.out
      have hw3 : w.heap.size < w3.heap.size := hp4.wlt
      have hw34 : w3.heap.size < w4.heap.size := hp4.lt
      obtain ⟨ts, hts⟩ : ∃ ts, toldF q2.size q2.data.toList = ts := ⟨_, rfl⟩
      have hsm : ∀ x ∈ ts, x.2.length ≤ q2.size := fun x hx => by have := (toldF_small q2.size q2.data.toList x (hts ▸ hx)).1; rwa [len_eq] at this
      have htl : ts.length ≤ 1000 := by have := toldF_len q2.size q2.data.toList; rw [hts] at this; omega
      have hit := told_iter (w4.heap.size + 1 + 1) q2 (by omega)
      rw [hts] at hit HTT
      have hI0 : ParseI w w3.heap.size w4.heap.size (w4.heap.size + 1) (w4.heap.size + 1 + 1) (i : Int) q1 q2 (ts.take 0 |>.map toPar) (usedF q2.size (ts.take 0)) ((((w4.alloc (.cells #[.string q2] 9)).setCell ⟨w3.heap.size, 1, none⟩ (.string q1)).alloc (.cells #[.int .i64 0] 3)).alloc (.cells #[.string q2] 9)) := by
       refine ⟨⟨.slice none 0 0, Kd.R_nil _ _ _ _ _, ?_⟩, ?_, ?_, ?_, ?_⟩
       ·exact blk_alloc (blk_alloc (blk_put hp4.K5 1 (.string q1) rfl) _) _
       ·exact blk_alloc (blk_alloc (blk_far (heap_alloc_new w4 (.cells #[.string q2] 9)) (p := ⟨w3.heap.size, 1, none⟩) hp4.ne _) _) _
       ·refine blk_alloc ?_ _
        have := heap_alloc_new ((w4.alloc (.cells #[.string q2] 9)).setCell ⟨w3.heap.size, 1, none⟩ (.string q1)) (.cells #[.int .i64 0] 3)
        rw [World.size_setCell, World.size_alloc] at this
        exact this
       ·exact blk_alloc (blk_alloc (blk_far hp4.G5 (p := ⟨w3.heap.size, 1, none⟩) (by show w.heap.size ≠ w3.heap.size; omega) _) _) _
       ·exact below_alloc (below_alloc (hp4.B5.setCell (p := ⟨w3.heap.size, 1, none⟩) (by show w.heap.size ≤ w3.heap.size; omega) _) _) _
      have hsz : ((((w4.alloc (.cells #[.string q2] 9)).setCell ⟨w3.heap.size, 1, none⟩ (.string q1)).alloc (.cells #[.int .i64 0] 3)).alloc (.cells #[.string q2] 9)).heap.size = w4.heap.size + 1 + 1 + 1 := by simp
      have hbox : ((((w4.alloc (.cells #[.string q2] 9)).setCell ⟨w3.heap.size, 1, none⟩ (.string q1)).alloc (.cells #[.int .i64 0] 3)).alloc (.cells #[.string q2] 9)).heap[w4.heap.size + 1 + 1]? = some (.cells #[.string q2] 9 (0, 0)) := by
       have := heap_alloc_new (((w4.alloc (.cells #[.string q2] 9)).setCell ⟨w3.heap.size, 1, none⟩ (.string q1)).alloc (.cells #[.int .i64 0] 3)) (.cells #[.string q2] 9)
       rw [World.size_alloc, World.size_setCell, World.size_alloc] at this
       exact this
      clear k51 q51 g50 g51 g52 f50 f51 f52 l58
      generalize ((((w4.alloc (.cells #[.string q2] 9)).setCell ⟨w3.heap.size, 1, none⟩ (.string q1)).alloc (.cells #[.int .i64 0] 3)).alloc (.cells #[.string q2] 9)) = W0 at hI0 hsz hbox ⊢
      have HSZ := Aside0.mk hsz
      refine wpIn_rangeB2 (gf := 65) (lb := #[.pointer (some ⟨w4.heap.size + 1 + 1, 0, none⟩)]) rfl (enters_of Tryz.func65 (by kernel_rfl) rfl) hit (by omega)
       (fun W hb => (hb.block _ (by omega)).trans hbox) (fun _ => rfl)
       (fun j W => ParseI w w3.heap.size w4.heap.size (w4.heap.size + 1) (w4.heap.size + 1 + 1) (i : Int) q1 q2 ((ts.take j).map toPar) (usedF q2.size (ts.take j)) W)
       (fun c j W => False)
       (fun j A A' row hs hg hr => hs.grown hg hr (by omega) (by omega) (by omega) (by omega) (by omega))
       (fun c j A A' row hs hg hr => hs)
       hI0
       (fun x a' W => GQ w3.heap.size w4.heap.size (w4.heap.size + 1) W0.heap.size x a' W) (fun x a' => gQ_own (by omega) x a') ?assign ?body ?done ?stop
      case assign =>
       intro l x W K hbW hK
       clear HTT HA HP hit hI0 hbox HSZ
       simp only [encT]
       gi_wp2
       exact hK _ _ (below_alloc (Below.refl _ _) _) (GQ.mk' W.heap.size rfl hbW (heap_alloc_new W _))
      case stop => exact fun _ _ _ _ _ _ h => h.elim
      case body =>
       rintro l j hj a' W hbW hI ⟨u, p, rfl, hp, hkp⟩
       obtain ⟨us, hR, hk6⟩ := hI.R
       obtain ⟨Au, cu, rfl⟩ := Kd.R_slice hR
       have hI' := Aside0.mk hI
       have hR' := Aside0.mk hR
       have hk6' := Aside0.mk hk6
       have hp0 : W.cell? ⟨p, 0, none⟩ = some (.string ⟨ts[j].1.1.toArray⟩) := blk_cell hkp 0
       have hp1 : W.cell? ⟨p, 1, none⟩ = some (.string ⟨ts[j].1.2.toArray⟩) := blk_cell hkp 1
       have hc62 : W.cell? ⟨w3.heap.size, 2, none⟩ = some (.slice Au ((ts.take j).map toPar).length cu) := blk_cell hk6 2
       have hlj : ((ts.take j).map toPar).length ≤ 1000 := by rw [List.length_map, List.length_take]; omega
       have hxl := hsm _ (List.getElem_mem hj)
       have hus : (q2.size : Int) - ts[j].2.toArray.size = usedF q2.size (ts.take (j + 1)) := by rw [usedF_succ _ _ _ hj, List.size_toArray]
       have hpar : (ts.take (j + 1)).map toPar = (ts.take j).map toPar ++ [(⟨⟨ts[j].1.1.toArray⟩, ⟨ts[j].1.2.toArray⟩⟩ : S56)] := by rw [List.take_succ_eq_append_getElem hj, List.map_append]; rfl
       have HUS := Aside0.mk hus
       have HPAR := Aside0.mk hpar
       have HBW : Aside0 (w4.heap.size + 1 + 1 < W.heap.size) := ⟨by have := HSZ.out; omega⟩
       have hxl2 : ts[j].2.toArray.size ≤ q2.size := by rw [List.size_toArray]; exact hxl
       clear hI hR hk6 hkp hus hpar hbW HTT HA HP hit hI0 hbox HSZ hxl
       generalize (ts.take j).map toPar = row at hI' hR' hk6' hc62 hlj HPAR
       generalize ts[j].2.toArray = rst at HUS hxl2
       generalize ts[j].1.1.toArray = xn at hp0 HPAR
       generalize ts[j].1.2.toArray = xv at hp1 HPAR
       unfold litQ
       gi_wp2_with (gi_at_builtin; refine R_appendIn k56 (w0 := w) w.heap.size rfl (.tmp 63) (.tmp 65) 25 56 (.agg #[(.string ⟨#[]⟩), (.string ⟨#[]⟩)]) 32 rfl Tryz.underlying25 info56 rfl (by decide) (by omega) (.slice Au row.length cu) row ⟨⟨xn⟩, ⟨xv⟩⟩ [.string ⟨xn⟩, .string ⟨xv⟩] (fun k => k ≠ w4.heap.size + 1 + 1) (fun _ => False) rfl rfl ?aP (fun _ hk => hk.elim) ?aF ?aO ?aB ?aS ?aL ?_; (case aP => exact k56_mkM _ _ _ _); (case aF => exact fun k hk => by have := HBW.out; omega); (case aO => exact hR'.out); (case aB => exact hI'.out.Bel); (case aS => exact hI'.out.Bel.size); (case aL => omega); intro v1 W1 ho hb hgr hat; have hk61 := blk_grown hk6'.out hgr (fun e => ((Kd.R_types hR'.out hk6'.out (by decide)).1 _ e.symm).2 rfl); have hk81 := blk_grown hI'.out.B8 hgr (fun e => ((Kd.R_types hR'.out hI'.out.B8 (by decide)).1 _ e.symm).2 rfl); have hk101 := blk_grown hI'.out.B10 hgr (fun e => ((Kd.R_types hR'.out hI'.out.B10 (by decide)).1 _ e.symm).2 rfl); obtain ⟨A1, c1, rfl⟩ := Kd.R_slice ho; have m62 : W1.cell? ⟨w3.heap.size, 2, none⟩ = some (.slice Au row.length cu) := blk_cell hk61 2; have m62f := blk_frozen hk61 2; have hk82 : (W1.setCell ⟨w3.heap.size, 2, none⟩ (.slice A1 (row.length + 1) c1)).heap[w4.heap.size]? = some (.cells #[.string q2] 9 (0, 0)) := blk_far hk81 (p := ⟨w3.heap.size, 2, none⟩) (by show w4.heap.size ≠ w3.heap.size; omega) _; have m8 : (W1.setCell ⟨w3.heap.size, 2, none⟩ (.slice A1 (row.length + 1) c1)).cell? ⟨w4.heap.size, 0, none⟩ = some (.string q2) := blk_cell hk82 0; have hk102 : (W1.setCell ⟨w3.heap.size, 2, none⟩ (.slice A1 (row.length + 1) c1)).heap[w4.heap.size + 1]? = some (.cells #[.int .i64 _] 3 (0, 0)) := blk_far hk101 (p := ⟨w3.heap.size, 2, none⟩) (by show w4.heap.size + 1 ≠ w3.heap.size; omega) _; have m10 := blk_cell hk102 0; have m10f := blk_frozen hk102 0; simp only [List.getElem?_toArray, List.getElem?_cons_zero] at m10; have HO := Aside0.mk ho; have HB1 := Aside0.mk hb; have HGR := Aside0.mk hgr; clear hk61 hk81 hk101 hk82 hk102 ho hb hgr hat)
       have ho := HO.out
       rw [show (row ++ [(⟨⟨xn⟩, ⟨xv⟩⟩ : S56)]).length = row.length + 1 from by simp] at ho
       obtain ⟨s1, s2, s3⟩ := ParseI.step (b := W0.heap.size) hI'.out ((q2.size : Int) - rst.size) hR'.out hk6'.out ho HB1.out HGR.out HBW.out (by omega) (by omega) (by omega) (by omega) (by omega) (by omega) (by omega)
       exact ⟨s1, s2, by show ParseI w w3.heap.size w4.heap.size (w4.heap.size + 1) (w4.heap.size + 1 + 1) (i : Int) q1 q2 ((ts.take (j + 1)).map toPar) (usedF q2.size (ts.take (j + 1))) _; rw [HPAR.out, ← HUS.out]; exact s3⟩
      case done =>
       intro D W hD hI hk
       have hI2 : ParseI w w3.heap.size w4.heap.size (w4.heap.size + 1) (w4.heap.size + 1 + 1) (i : Int) q1 q2 (ts.map toPar) (usedF q2.size ts) W := by have := hI; rwa [List.take_length] at this
       obtain ⟨us6, hR, hk6⟩ := hI2.R
       obtain ⟨Au, cu, rfl⟩ := Kd.R_slice hR
       have hI' := Aside0.mk hI2
       have hR' := Aside0.mk hR
       have hk6' := Aside0.mk hk6
       have HM' : Aside0 (MarksP w [markD D] W) := ⟨.inr ⟨D, rfl, by omega, hk⟩⟩
       have hc10 : W.cell? ⟨w4.heap.size + 1, 0, none⟩ = some (.int .i64 (usedF q2.size ts)) := blk_cell hI2.B10 0
       have hc8 : W.cell? ⟨w4.heap.size, 0, none⟩ = some (.string q2) := blk_cell hI2.B8 0
       have hz0 : W.cell? ⟨w.heap.size, 0, none⟩ = some (.int .u8 0) := blk_cell hI2.G 0
       have hz1 : W.cell? ⟨w.heap.size, 1, none⟩ = some (.string ⟨#[]⟩) := blk_cell hI2.G 1
       have hz2 : W.cell? ⟨w.heap.size, 2, none⟩ = some (.slice none 0 0) := blk_cell hI2.G 2
       have hy0 := blk_frozen hI2.G 0
       have hy1 := blk_frozen hI2.G 1
       have hy2 := blk_frozen hI2.G 2
       have hx0 : W.cell? ⟨w3.heap.size, 0, none⟩ = some (.int .u8 (i : Int)) := blk_cell hk6 0
       have hx1 : W.cell? ⟨w3.heap.size, 1, none⟩ = some (.string q1) := blk_cell hk6 1
       have hx2 : W.cell? ⟨w3.heap.size, 2, none⟩ = some (.slice Au (ts.map toPar).length cu) := blk_cell hk6 2
       have hsf : ∀ W, Calls Tryz.prog 46 #[.string q2, .string ⟨#[32]⟩] W fun e w' => e = .returned (.bool (Lib.hasSuffix q2.data.toList [32])) ∧ w' = W := fun W => Tryz.strings_HasSuffix q2 ⟨#[32]⟩ W (by omega)
       have hmcall : ∀ m, cmd_May.f 1 (i : Int) q1 (ts.map toPar) = some m → ∀ W2, Below W.heap.size W W2 → Calls Tryz.prog 18 #[.agg #[.int .u8 (i : Int), .string q1, .slice Au (ts.map toPar).length cu]] W2 fun e w' => e = .returned (.bool m) ∧ Below W2.heap.size W2 w' := fun m hm W2 hb =>
        cmd_May.calls 1 (i : Int) q1 Au cu (ts.map toPar) m W2 (Kd.C_below (Kd.R_reads' hR).2.2 hb) (Kd.R_reads' hR).2.1 hm
       have ht := HTT.out
       clear hI hI2 hR hk6 hk hit hI0 hbox HSZ hsm htl HTT HP hts
       generalize usedF q2.size ts = us at hc10 ht hI'
       generalize ts.map toPar = row at hx2 ht hI' hR' hk6' hmcall
       generalize Lib.hasSuffix q2.data.toList [32] = sb at hsf ht
       cases hub : (us != (q2.size : Int)) with
       | true =>
        have HE : Aside0 ((r1, r2, r3, r4) = errP) := ⟨by rw [hub] at ht; simpa using ht.symm⟩
        clear ht hmcall
        gi_wp2
        exact leave_err w _ _ W HM'.out 4 r1 r2 r3 r4 HE.out hI'.out.G rfl rfl hI'.out.Bel
       | false =>
        cases sb with
        | true =>
         have HE : Aside0 ((r1, r2, r3, r4) = errP) := ⟨by simpa using ht.symm⟩
         clear ht hmcall
         gi_wp2_with (gi_at_call 46; refine (CallsIn.mono (callsIn_wide.2 (hsf _)) ?_); rintro e w' ⟨rfl, hw⟩; obtain rfl := hw.symm; clear hw)
         exact leave_err w _ _ W HM'.out 4 r1 r2 r3 r4 HE.out hI'.out.G rfl rfl hI'.out.Bel
        | false =>
         rw [hub] at ht
         simp only [Bool.or_self, Bool.false_eq_true, if_false] at ht
         obtain ⟨m, hmay, ht⟩ := Option.bind_eq_some_iff.1 ht
         have hmc := hmcall m hmay
         have HT := Aside0.mk (Option.some.inj ht)
         clear ht hmcall hmay
         cases m with
         | false =>
          gi_wp2_with (first | (gi_at_call 46; refine (CallsIn.mono (callsIn_wide.2 (hsf _)) ?_); rintro e w' ⟨rfl, hw⟩; obtain rfl := hw.symm; clear hw) | (gi_at_call 18; refine (CallsIn.mono (callsIn_wide.2 (hmc _ (Below.refl _ _))) ?_); rintro e w5 ⟨rfl, hb⟩; have hg5 := blk_below hI'.out.G hb; have hk5 := blk_below hk6'.out hb; have HG5 := Aside0.mk hg5; have HB5 := Aside0.mk (below_step hI'.out.Bel hb); have HM5 := Aside0.mk (HM'.out.below hb); have HR5 := Aside0.mk (Kd.R_below hR'.out hb); have hc0 := blk_cell hk5 0; have hc1 := blk_cell hk5 1; have hc2 := blk_cell hk5 2; have hd0 := blk_cell hg5 0; have hd1 := blk_cell hg5 1; have hd2 := blk_cell hg5 2; have hf0 := blk_frozen hg5 0; have hf1 := blk_frozen hg5 1; have hf2 := blk_frozen hg5 2; simp only [List.getElem?_toArray, List.getElem?_cons_zero, List.getElem?_cons_succ] at hc0 hc1 hc2 hd0 hd1 hd2; clear hb hg5 hk5))
          exact HK.out _ _ ⟨[markD D], FrameP.mk' _ _ rfl, HB5.out, HG5.out, HM5.out, HA.out [markD D] (by have := HT.out; simpa using this.symm)⟩
         | true =>
          gi_wp2_with (first | (gi_at_call 46; refine (CallsIn.mono (callsIn_wide.2 (hsf _)) ?_); rintro e w' ⟨rfl, hw⟩; obtain rfl := hw.symm; clear hw) | (gi_at_call 18; refine (CallsIn.mono (callsIn_wide.2 (hmc _ (Below.refl _ _))) ?_); rintro e w5 ⟨rfl, hb⟩; have hg5 := blk_below hI'.out.G hb; have hk5 := blk_below hk6'.out hb; have HG5 := Aside0.mk hg5; have HB5 := Aside0.mk (below_step hI'.out.Bel hb); have HM5 := Aside0.mk (HM'.out.below hb); have HR5 := Aside0.mk (Kd.R_below hR'.out hb); have hc0 := blk_cell hk5 0; have hc1 := blk_cell hk5 1; have hc2 := blk_cell hk5 2; have hd0 := blk_cell hg5 0; have hd1 := blk_cell hg5 1; have hd2 := blk_cell hg5 2; have hf0 := blk_frozen hg5 0; have hf1 := blk_frozen hg5 1; have hf2 := blk_frozen hg5 2; simp only [List.getElem?_toArray, List.getElem?_cons_zero, List.getElem?_cons_succ] at hc0 hc1 hc2 hd0 hd1 hd2; clear hb hg5 hk5))
          have h := HT.out
          simp only [if_true] at h
          cases h
          exact leave_ok w _ [markD D] w5 HM5.out _ _ _ _ 0 (fun k => k ≠ w4.heap.size + 1 + 1) HG5.out rfl rfl HR5.out HB5.out
   ·have h3b : ((i : Int) == 3) = false := beq_eq_false_iff_ne.2 (fun e => hp (.inl e))
    have h4b : ((i : Int) == 4) = false := beq_eq_false_iff_ne.2 (fun e => hp (.inr e))
    have ht := HTRY.out
    unfold tryV at ht
    rw [if_neg hp] at ht
    obtain ⟨m, hmay, ht⟩ := Option.bind_eq_some_iff.1 ht
    have hmc : ∀ W, Calls Tryz.prog 18 #[.agg #[.int .u8 (i : Int), .string arg, .slice none 0 0]] W fun e w' => e = .returned (.bool m) ∧ Below W.heap.size W w' := fun W => cmd_May.calls 1 (i : Int) arg none 0 [] m W (Kd.C_nil _ _) (Nat.le_refl _) hmay
    have HT := Aside0.mk (Option.some.inj ht)
    clear ht hmay HTRY hp hv
    cases m with
    | false =>
     gi_wp2_with (first | (gi_at_call 43; refine (CallsIn.mono (callsIn_wide.2 (hgr _)) ?_); rintro e w3 ⟨rfl, hb⟩; have HB3 := Aside0.mk (below_step HB.out hb); have HG3 := Aside0.mk (blk_below HG.out hb); have HM3 := Aside0.mk (HM.out.below hb); clear hb) | (gi_at_call 42; refine (CallsIn.mono (callsIn_wide.2 (hpf _)) ?_); rintro e w' ⟨rfl, hw⟩; obtain rfl := hw.symm; clear hw) | (gi_at_call 18; refine (CallsIn.mono (callsIn_wide.2 (hmc _)) ?_); rintro e w4 ⟨rfl, hb⟩; have hal : Below w3.heap.size w3 w4 := below_step (below_alloc (Below.refl _ _) _) hb; have hk4 := blk_below (heap_alloc_new w3 _) hb; have HB4 := Aside0.mk (below_step HB3.out hal); have hg4 := blk_below HG3.out hal; have HG4 := Aside0.mk hg4; have HM4 := Aside0.mk (HM3.out.below hal); have hc0 := blk_cell hk4 0; have hc1 := blk_cell hk4 1; have hc2 := blk_cell hk4 2; have hd0 := blk_cell hg4 0; have hd1 := blk_cell hg4 1; have hd2 := blk_cell hg4 2; have hf0 := blk_frozen hg4 0; have hf1 := blk_frozen hg4 1; have hf2 := blk_frozen hg4 2; simp only [List.getElem?_toArray, List.getElem?_cons_zero, List.getElem?_cons_succ] at hc0 hc1 hc2 hd0 hd1 hd2; clear hb hal hk4 hg4))
     exact HK.out _ _ ⟨[], FrameP.mk' _ _ rfl, HB4.out, HG4.out, HM4.out, HA.out [] (by have := HT.out; simpa using this.symm)⟩
    | true =>
     gi_wp2_with (first | (gi_at_call 43; refine (CallsIn.mono (callsIn_wide.2 (hgr _)) ?_); rintro e w3 ⟨rfl, hb⟩; have HB3 := Aside0.mk (below_step HB.out hb); have HG3 := Aside0.mk (blk_below HG.out hb); have HM3 := Aside0.mk (HM.out.below hb); clear hb) | (gi_at_call 42; refine (CallsIn.mono (callsIn_wide.2 (hpf _)) ?_); rintro e w' ⟨rfl, hw⟩; obtain rfl := hw.symm; clear hw) | (gi_at_call 18; refine (CallsIn.mono (callsIn_wide.2 (hmc _)) ?_); rintro e w4 ⟨rfl, hb⟩; have hal : Below w3.heap.size w3 w4 := below_step (below_alloc (Below.refl _ _) _) hb; have hk4 := blk_below (heap_alloc_new w3 _) hb; have HB4 := Aside0.mk (below_step HB3.out hal); have hg4 := blk_below HG3.out hal; have HG4 := Aside0.mk hg4; have HM4 := Aside0.mk (HM3.out.below hal); have hc0 := blk_cell hk4 0; have hc1 := blk_cell hk4 1; have hc2 := blk_cell hk4 2; have hd0 := blk_cell hg4 0; have hd1 := blk_cell hg4 1; have hd2 := blk_cell hg4 2; have hf0 := blk_frozen hg4 0; have hf1 := blk_frozen hg4 1; have hf2 := blk_frozen hg4 2; simp only [List.getElem?_toArray, List.getElem?_cons_zero, List.getElem?_cons_succ] at hc0 hc1 hc2 hd0 hd1 hd2; clear hb hal hk4 hg4))
     have h := HT.out
     simp only [if_true] at h
     cases h
     exact leave_ok w _ [] w4 HM4.out _ _ _ [] 0 (fun _ => True) HG4.out rfl rfl (Kd.R_nil _ _ _ _ _) HB4.out
end
set_option maxHeartbeats 1000000 in
theorem parse_long (s : ByteArray) (w : World) (hs : 510 < s.size) (h7 : s.size ≤ 140737488351232) :
  Calls Tryz.prog 21 #[.string s] w fun e w' => ∃ v2_ : Value, e = .returned (.tuple #[.agg #[.int .u8 0, .string ⟨#[]⟩, v2_], .int .i64 40]) ∧ Kd.R k56 56 w' w.heap.size (fun _ => True) v2_ [] ∧ Below w.heap.size w w' := by
 have h510 : decide (510 < (s.size : Int)) = true := decide_eq_true (by omega)
 have hg := heap_alloc_new w (.cells #[.int .u8 0, .string ⟨#[]⟩, .slice none 0 0] 27)
 have HG := Aside0.mk hg
 clear hg
 go_enter Tryz.func21, Tryz.ntmps21
 go_wp2
 refine bodyPost_ret (results_ct rfl _ _ w.heap.size 27 #[.int .u8 0, .string ⟨#[]⟩, .slice none 0 0] (0, 0) _ rfl (by first | exact HG.out | (refine blk_put (cs := #[.int .u8 0, .string ⟨#[]⟩, .slice none 0 0]) ?_ 2 _ rfl; refine blk_put (cs := #[.int .u8 0, .string ⟨#[]⟩, .slice none 0 0]) ?_ 1 _ rfl; refine blk_put (cs := #[.int .u8 0, .string ⟨#[]⟩, .slice none 0 0]) ?_ 0 _ rfl; exact HG.out)) Tryz.underlying27 rfl (by kernel_rfl)) rfl ?_
 exact ⟨.slice none 0 0, rfl, Kd.R_nil _ _ _ _ _, by repeat (first | exact Below.refl _ _ | apply below_alloc | refine below_set ?_ (Nat.le_refl _))⟩
theorem cmd_Parse.calls (a0 : ByteArray) (r1 : Int) (r2 : ByteArray) (r3 : List S56) (r4 : Int) (w : World) (h : cmd_Parse.f a0 = some (r1, r2, r3, r4)) :
  Calls Tryz.prog 21 #[.string a0] w fun e w' => ∃ v2_ : Value, e = .returned (.tuple #[.agg #[.int .u8 r1, .string r2, v2_], .int .i64 r4]) ∧ Kd.R k56 56 w' w.heap.size (fun _ => True) v2_ r3 ∧ Below w.heap.size w w' := by
 by_cases hs : a0.size ≤ 510
 ·exact callsIn_wide.1 (parse_in a0 w hs r1 r2 r3 r4 h)
 ·unfold cmd_Parse.f at h
  rw [if_pos (by omega)] at h
  by_cases h7 : a0.size ≤ 140737488351232
  ·rw [if_pos h7] at h
   cases h
   exact parse_long a0 w (by omega) h7
  ·rw [if_neg h7] at h; cases h
end Go.Proofs.YtljkopbalejcgaaGreatDoor.P
end
section
namespace Go.Proofs.YtljkopbalejcgaaGreatDoor.P
open Go.RowKit Go.Proofs.YtljkopbalejcgaaGreatDoorW.PrintWords Go.Proofs.YtljkopbalejcgaaGreatDoorW.PrintLast Go.Proofs.YtljkopbalejcgaaGreatDoorW.PrintMore
attribute [local go_sem] max2_int min2_int max_two min_two max_three min_three max_four min_four
set_option linter.unusedVariables false
set_option linter.unusedSimpArgs false
def mailroomlaw07_wrong.f (a0 : ByteArray) : Option (Int) := (cmd_Parse.f a0).bind fun bt136 => (if bt136.1 = 0 then (if bt136.2.1.toList = ([] : List UInt8) then (if (bt136.2.2.1.length : Int) = 0 then (some bt136.2.2.2) else (some 0)) else (some 0)) else (some 0))
set_option maxHeartbeats 8000000 in
set_option maxRecDepth 100000 in
theorem mailroomlaw07_wrong.calls (a0 : ByteArray) (r : Int) (w : World) (h : mailroomlaw07_wrong.f a0 = some r) :
  Calls Tryz.prog 25 #[.string a0] w fun e w' => e = .returned (.int .i64 r) ∧ Below w.heap.size w w' := by
 have hu27 := Tryz.underlying27
 have HB := Aside0.mk (Below.refl w.heap.size w)
 have H : ((cmd_Parse.f a0).bind fun bt136 => (if bt136.1 = 0 then (if bt136.2.1.toList = ([] : List UInt8) then (if (bt136.2.2.1.length : Int) = 0 then (some bt136.2.2.2) else (some 0)) else (some 0)) else (some 0))) = some r := h
 clear h
 replace H := Option.bind_eq_some_iff.mp H
 obtain ⟨⟨t136, t137, t138, t141⟩, A20, H⟩ := H
 replace H : (if t136 = 0 then (if t137.toList = ([] : List UInt8) then (if (t138.length : Int) = 0 then (some t141) else (some 0)) else (some 0)) else (some 0)) = some r := H
 have A2 := Aside0.mk A20
 clear A20
 by_cases c3 : t136 = 0
 ·rw [if_pos c3] at H
  have c3b0 : (t136 == 0) = true := beq_iff_eq.mpr c3
  have c3b1 : (t136 != 0) = false := bne_eq_false_iff_eq.mpr c3
  clear c3
  by_cases c4 : t137.toList = ([] : List UInt8)
  ·rw [if_pos c4] at H
   have c4b0 : (t137.toList == ([] : List UInt8)) = true := beq_iff_eq.mpr c4
   have c4b1 : (t137.toList != ([] : List UInt8)) = false := bne_eq_false_iff_eq.mpr c4
   clear c4
   by_cases c5 : (t138.length : Int) = 0
   ·rw [if_pos c5] at H
    have c5b0 : ((t138.length : Int) == 0) = true := beq_iff_eq.mpr c5
    have c5b1 : ((t138.length : Int) != 0) = false := bne_eq_false_iff_eq.mpr c5
    clear c5
    obtain rfl := Option.some.inj H
    go_enter Tryz.func25, Tryz.ntmps25
    go_wp2_with (first | ((with_reducible refine gate_callee (f := 21) rfl ?_); refine goesL_ (some 7) rfl rfl Tryz.func21 (by kernel_rfl) rfl #[.string a0] rfl (by (try simp only [List.map_toArray, List.map_cons, List.map_nil]); first | done | rfl | (simp only [List.length_drop, List.length_take]; rfl)) ?_; (with_reducible refine (cmd_Parse.calls a0 t136 t137 t138 t141 _ A2.out).mono ?_); rintro e w6 ⟨v139, rfl, ho0, hb⟩; refine ⟨_, rfl, ?_⟩; have n0_ := Aside0.mk (Kd.R_lower ho0 (below_size (by repeat (first | (with_reducible first | exact HB.out | apply below_alloc | apply pw_below_drewN | apply below_drew1) | exact HB.out)))); have n1_ := Aside0.mk (below_step (by repeat (first | (with_reducible first | exact HB.out | apply below_alloc | apply pw_below_drewN | apply below_drew1) | exact HB.out)) hb); clear HB; have HO140 := n0_; have HB := n1_; clear n0_ n1_; (try clear hb); (try clear hb2); (try clear hk); (try clear hi); (try clear ho0)) | ((with_reducible refine gate_dst (N := 3) rfl ?_); (try (refine gate_guard (by rfl) ?_; dsimp only)); refine box_event ?hg (N := 3) ?hd (cs := #[.int .u8 0, .string (⟨#[]⟩ : ByteArray), .slice none 0 0]) (t := 27) ?hr ?_; (case hd => rfl); (case hg => rfl); (case hr => first | (go_simp; done) | (go_simp; rfl)); intro gb142 hg w7 hbox hb; have n0_ := Aside0.mk (Kd.R_below (by (with_reducible repeat (first | apply Kd.R_alloc | apply Kd.R_drewN | apply Kd.R_drew)); exact HO140.out) hb); have n1_ := Aside0.mk (below_step (by repeat (first | (with_reducible first | exact HB.out | apply below_alloc | apply pw_below_drewN | apply below_drew1) | exact HB.out)) hb); have n2_ := Aside0.mk (hbox); have n3_ := Aside0.mk ((by rw [hg]; exact (below_size (by repeat (first | (with_reducible first | exact HB.out | apply below_alloc | apply pw_below_drewN | apply below_drew1) | exact HB.out))) : w.heap.size ≤ gb142)); have n4_ := Aside0.mk ((by rw [hg]; exact (below_size (by repeat (first | (with_reducible first | exact HB.out | apply below_alloc | apply pw_below_drewN | apply below_drew1) | exact HB.out))) : w.heap.size ≤ gb142)); clear HO140; clear HB; have HO140 := n0_; have HB := n1_; have BK142 := n2_; have GW142 := n3_; have GE142 := n4_; clear n0_ n1_ n2_ n3_ n4_; clear hb hbox hg; have hcz8_0 : w7.cell? ⟨gb142, 0, none⟩ = some (.int .u8 0) := (blk_cell BK142.out 0).trans rfl; have hcz8_1 : w7.cell? ⟨gb142, 1, none⟩ = some (.string (⟨#[]⟩ : ByteArray)) := (blk_cell BK142.out 1).trans rfl; have hcz8_2 : w7.cell? ⟨gb142, 2, none⟩ = some (.slice none 0 0) := (blk_cell BK142.out 2).trans rfl; have hfz8_0 := blk_frozen BK142.out 0; have hfz8_1 := blk_frozen BK142.out 1; have hfz8_2 := blk_frozen BK142.out 2; obtain ⟨Ao9, co9, eo9⟩ := Kd.R_slice HO140.out; subst eo9))
    go_ret
    exact ⟨by first | rfl | (simp [errW_none, errW_some] <;> rfl) | (simp [*, errW_none, errW_some] <;> rfl), by repeat (first | (with_reducible first | exact HB.out | apply below_alloc | apply pw_below_drewN | apply below_drew1 | refine below_set ?_ GE142.out) | exact HB.out)⟩
   ·rw [if_neg c5] at H
    have c5b0 : ((t138.length : Int) == 0) = false := beq_eq_false_iff_ne.mpr c5
    have c5b1 : ((t138.length : Int) != 0) = true := bne_iff_ne.mpr c5
    have c5b2 : ¬ (t138 = []) := fun h_ => c5 (by rw [h_]; rfl)
    obtain rfl := Option.some.inj H
    go_enter Tryz.func25, Tryz.ntmps25
    go_wp2_with (first | ((with_reducible refine gate_callee (f := 21) rfl ?_); refine goesL_ (some 7) rfl rfl Tryz.func21 (by kernel_rfl) rfl #[.string a0] rfl (by (try simp only [List.map_toArray, List.map_cons, List.map_nil]); first | done | rfl | (simp only [List.length_drop, List.length_take]; rfl)) ?_; (with_reducible refine (cmd_Parse.calls a0 t136 t137 t138 t141 _ A2.out).mono ?_); rintro e w10 ⟨v139, rfl, ho0, hb⟩; refine ⟨_, rfl, ?_⟩; have n0_ := Aside0.mk (Kd.R_lower ho0 (below_size (by repeat (first | (with_reducible first | exact HB.out | apply below_alloc | apply pw_below_drewN | apply below_drew1) | exact HB.out)))); have n1_ := Aside0.mk (below_step (by repeat (first | (with_reducible first | exact HB.out | apply below_alloc | apply pw_below_drewN | apply below_drew1) | exact HB.out)) hb); clear HB; have HO140 := n0_; have HB := n1_; clear n0_ n1_; (try clear hb); (try clear hb2); (try clear hk); (try clear hi); (try clear ho0)) | ((with_reducible refine gate_dst (N := 3) rfl ?_); (try (refine gate_guard (by rfl) ?_; dsimp only)); refine box_event ?hg (N := 3) ?hd (cs := #[.int .u8 0, .string (⟨#[]⟩ : ByteArray), .slice none 0 0]) (t := 27) ?hr ?_; (case hd => rfl); (case hg => rfl); (case hr => first | (go_simp; done) | (go_simp; rfl)); intro gb142 hg w11 hbox hb; have n0_ := Aside0.mk (Kd.R_below (by (with_reducible repeat (first | apply Kd.R_alloc | apply Kd.R_drewN | apply Kd.R_drew)); exact HO140.out) hb); have n1_ := Aside0.mk (below_step (by repeat (first | (with_reducible first | exact HB.out | apply below_alloc | apply pw_below_drewN | apply below_drew1) | exact HB.out)) hb); have n2_ := Aside0.mk (hbox); have n3_ := Aside0.mk ((by rw [hg]; exact (below_size (by repeat (first | (with_reducible first | exact HB.out | apply below_alloc | apply pw_below_drewN | apply below_drew1) | exact HB.out))) : w.heap.size ≤ gb142)); have n4_ := Aside0.mk ((by rw [hg]; exact (below_size (by repeat (first | (with_reducible first | exact HB.out | apply below_alloc | apply pw_below_drewN | apply below_drew1) | exact HB.out))) : w.heap.size ≤ gb142)); clear HO140; clear HB; have HO140 := n0_; have HB := n1_; have BK142 := n2_; have GW142 := n3_; have GE142 := n4_; clear n0_ n1_ n2_ n3_ n4_; clear hb hbox hg; have hcz12_0 : w11.cell? ⟨gb142, 0, none⟩ = some (.int .u8 0) := (blk_cell BK142.out 0).trans rfl; have hcz12_1 : w11.cell? ⟨gb142, 1, none⟩ = some (.string (⟨#[]⟩ : ByteArray)) := (blk_cell BK142.out 1).trans rfl; have hcz12_2 : w11.cell? ⟨gb142, 2, none⟩ = some (.slice none 0 0) := (blk_cell BK142.out 2).trans rfl; have hfz12_0 := blk_frozen BK142.out 0; have hfz12_1 := blk_frozen BK142.out 1; have hfz12_2 := blk_frozen BK142.out 2; obtain ⟨Ao13, co13, eo13⟩ := Kd.R_slice HO140.out; subst eo13))
    go_ret
    exact ⟨by first | rfl | (simp [errW_none, errW_some] <;> rfl) | (simp [*, errW_none, errW_some] <;> rfl), by repeat (first | (with_reducible first | exact HB.out | apply below_alloc | apply pw_below_drewN | apply below_drew1 | refine below_set ?_ GE142.out) | exact HB.out)⟩
  ·rw [if_neg c4] at H
   have c4b0 : (t137.toList == ([] : List UInt8)) = false := beq_eq_false_iff_ne.mpr c4
   have c4b1 : (t137.toList != ([] : List UInt8)) = true := bne_iff_ne.mpr c4
   obtain rfl := Option.some.inj H
   go_enter Tryz.func25, Tryz.ntmps25
   go_wp2_with (first | ((with_reducible refine gate_callee (f := 21) rfl ?_); refine goesL_ (some 7) rfl rfl Tryz.func21 (by kernel_rfl) rfl #[.string a0] rfl (by (try simp only [List.map_toArray, List.map_cons, List.map_nil]); first | done | rfl | (simp only [List.length_drop, List.length_take]; rfl)) ?_; (with_reducible refine (cmd_Parse.calls a0 t136 t137 t138 t141 _ A2.out).mono ?_); rintro e w14 ⟨v139, rfl, ho0, hb⟩; refine ⟨_, rfl, ?_⟩; have n0_ := Aside0.mk (Kd.R_lower ho0 (below_size (by repeat (first | (with_reducible first | exact HB.out | apply below_alloc | apply pw_below_drewN | apply below_drew1) | exact HB.out)))); have n1_ := Aside0.mk (below_step (by repeat (first | (with_reducible first | exact HB.out | apply below_alloc | apply pw_below_drewN | apply below_drew1) | exact HB.out)) hb); clear HB; have HO140 := n0_; have HB := n1_; clear n0_ n1_; (try clear hb); (try clear hb2); (try clear hk); (try clear hi); (try clear ho0)) | ((with_reducible refine gate_dst (N := 3) rfl ?_); (try (refine gate_guard (by rfl) ?_; dsimp only)); refine box_event ?hg (N := 3) ?hd (cs := #[.int .u8 0, .string (⟨#[]⟩ : ByteArray), .slice none 0 0]) (t := 27) ?hr ?_; (case hd => rfl); (case hg => rfl); (case hr => first | (go_simp; done) | (go_simp; rfl)); intro gb142 hg w15 hbox hb; have n0_ := Aside0.mk (Kd.R_below (by (with_reducible repeat (first | apply Kd.R_alloc | apply Kd.R_drewN | apply Kd.R_drew)); exact HO140.out) hb); have n1_ := Aside0.mk (below_step (by repeat (first | (with_reducible first | exact HB.out | apply below_alloc | apply pw_below_drewN | apply below_drew1) | exact HB.out)) hb); have n2_ := Aside0.mk (hbox); have n3_ := Aside0.mk ((by rw [hg]; exact (below_size (by repeat (first | (with_reducible first | exact HB.out | apply below_alloc | apply pw_below_drewN | apply below_drew1) | exact HB.out))) : w.heap.size ≤ gb142)); have n4_ := Aside0.mk ((by rw [hg]; exact (below_size (by repeat (first | (with_reducible first | exact HB.out | apply below_alloc | apply pw_below_drewN | apply below_drew1) | exact HB.out))) : w.heap.size ≤ gb142)); clear HO140; clear HB; have HO140 := n0_; have HB := n1_; have BK142 := n2_; have GW142 := n3_; have GE142 := n4_; clear n0_ n1_ n2_ n3_ n4_; clear hb hbox hg; have hcz16_0 : w15.cell? ⟨gb142, 0, none⟩ = some (.int .u8 0) := (blk_cell BK142.out 0).trans rfl; have hcz16_1 : w15.cell? ⟨gb142, 1, none⟩ = some (.string (⟨#[]⟩ : ByteArray)) := (blk_cell BK142.out 1).trans rfl; have hcz16_2 : w15.cell? ⟨gb142, 2, none⟩ = some (.slice none 0 0) := (blk_cell BK142.out 2).trans rfl; have hfz16_0 := blk_frozen BK142.out 0; have hfz16_1 := blk_frozen BK142.out 1; have hfz16_2 := blk_frozen BK142.out 2; obtain ⟨Ao17, co17, eo17⟩ := Kd.R_slice HO140.out; subst eo17))
   go_ret
   exact ⟨by first | rfl | (simp [errW_none, errW_some] <;> rfl) | (simp [*, errW_none, errW_some] <;> rfl), by repeat (first | (with_reducible first | exact HB.out | apply below_alloc | apply pw_below_drewN | apply below_drew1 | refine below_set ?_ GE142.out) | exact HB.out)⟩
 ·rw [if_neg c3] at H
  have c3b0 : (t136 == 0) = false := beq_eq_false_iff_ne.mpr c3
  have c3b1 : (t136 != 0) = true := bne_iff_ne.mpr c3
  obtain rfl := Option.some.inj H
  go_enter Tryz.func25, Tryz.ntmps25
  go_wp2_with (first | ((with_reducible refine gate_callee (f := 21) rfl ?_); refine goesL_ (some 7) rfl rfl Tryz.func21 (by kernel_rfl) rfl #[.string a0] rfl (by (try simp only [List.map_toArray, List.map_cons, List.map_nil]); first | done | rfl | (simp only [List.length_drop, List.length_take]; rfl)) ?_; (with_reducible refine (cmd_Parse.calls a0 t136 t137 t138 t141 _ A2.out).mono ?_); rintro e w18 ⟨v139, rfl, ho0, hb⟩; refine ⟨_, rfl, ?_⟩; have n0_ := Aside0.mk (Kd.R_lower ho0 (below_size (by repeat (first | (with_reducible first | exact HB.out | apply below_alloc | apply pw_below_drewN | apply below_drew1) | exact HB.out)))); have n1_ := Aside0.mk (below_step (by repeat (first | (with_reducible first | exact HB.out | apply below_alloc | apply pw_below_drewN | apply below_drew1) | exact HB.out)) hb); clear HB; have HO140 := n0_; have HB := n1_; clear n0_ n1_; (try clear hb); (try clear hb2); (try clear hk); (try clear hi); (try clear ho0)) | ((with_reducible refine gate_dst (N := 3) rfl ?_); (try (refine gate_guard (by rfl) ?_; dsimp only)); refine box_event ?hg (N := 3) ?hd (cs := #[.int .u8 0, .string (⟨#[]⟩ : ByteArray), .slice none 0 0]) (t := 27) ?hr ?_; (case hd => rfl); (case hg => rfl); (case hr => first | (go_simp; done) | (go_simp; rfl)); intro gb142 hg w19 hbox hb; have n0_ := Aside0.mk (Kd.R_below (by (with_reducible repeat (first | apply Kd.R_alloc | apply Kd.R_drewN | apply Kd.R_drew)); exact HO140.out) hb); have n1_ := Aside0.mk (below_step (by repeat (first | (with_reducible first | exact HB.out | apply below_alloc | apply pw_below_drewN | apply below_drew1) | exact HB.out)) hb); have n2_ := Aside0.mk (hbox); have n3_ := Aside0.mk ((by rw [hg]; exact (below_size (by repeat (first | (with_reducible first | exact HB.out | apply below_alloc | apply pw_below_drewN | apply below_drew1) | exact HB.out))) : w.heap.size ≤ gb142)); have n4_ := Aside0.mk ((by rw [hg]; exact (below_size (by repeat (first | (with_reducible first | exact HB.out | apply below_alloc | apply pw_below_drewN | apply below_drew1) | exact HB.out))) : w.heap.size ≤ gb142)); clear HO140; clear HB; have HO140 := n0_; have HB := n1_; have BK142 := n2_; have GW142 := n3_; have GE142 := n4_; clear n0_ n1_ n2_ n3_ n4_; clear hb hbox hg; have hcz20_0 : w19.cell? ⟨gb142, 0, none⟩ = some (.int .u8 0) := (blk_cell BK142.out 0).trans rfl; have hcz20_1 : w19.cell? ⟨gb142, 1, none⟩ = some (.string (⟨#[]⟩ : ByteArray)) := (blk_cell BK142.out 1).trans rfl; have hcz20_2 : w19.cell? ⟨gb142, 2, none⟩ = some (.slice none 0 0) := (blk_cell BK142.out 2).trans rfl; have hfz20_0 := blk_frozen BK142.out 0; have hfz20_1 := blk_frozen BK142.out 1; have hfz20_2 := blk_frozen BK142.out 2; obtain ⟨Ao21, co21, eo21⟩ := Kd.R_slice HO140.out; subst eo21))
  go_ret
  exact ⟨by first | rfl | (simp [errW_none, errW_some] <;> rfl) | (simp [*, errW_none, errW_some] <;> rfl), by repeat (first | (with_reducible first | exact HB.out | apply below_alloc | apply pw_below_drewN | apply below_drew1 | refine below_set ?_ GE142.out) | exact HB.out)⟩
end Go.Proofs.YtljkopbalejcgaaGreatDoor.P
end
section
namespace Go.Proofs.YtljkopbalejcgaaGreatDoor.P
open Go.RowKit Go.Proofs.YtljkopbalejcgaaGreatDoorW.PrintWords Go.Proofs.YtljkopbalejcgaaGreatDoorW.PrintLast Go.Proofs.YtljkopbalejcgaaGreatDoorW.PrintMore
attribute [local go_sem] max2_int min2_int max_two min_two max_three min_three max_four min_four
set_option linter.unusedVariables false
set_option linter.unusedSimpArgs false
def mailroomlaw07_awake.j0 : Nat → Int → Bool → Int → ByteArray → List (S56) → Option (Bool)
 | 0, _, _, _, _, _ => none
 | k + 1, x2, x36, x150000, x150001, x150002 => if x36 = true then (some false) else (if x2 = 0 then (if x150000 = 1 then (if x150001.toList = ([109, 120, 46, 101, 120, 97, 109, 112, 108, 101] : List UInt8) then (if (x150002.length : Int) = 0 then ((mailroomlaw07_wrong.f (⟨#[77, 65, 73, 76, 32, 70, 82, 79, 77, 58, 32, 60, 97, 64, 98, 46, 99, 62]⟩ : ByteArray)).bind fun t185 => (if t185 = 4 then ((mailroomlaw07_wrong.f (⟨#[68, 65, 84, 65, 32]⟩ : ByteArray)).bind fun t186 => (if t186 = 4 then ((mailroomlaw07_wrong.f (⟨#[82, 67, 80, 84, 32, 84, 79, 58, 60, 62]⟩ : ByteArray)).bind fun t187 => (some (t187 == 4))) else (some false))) else (some false))) else (some false)) else (some false)) else (some false)) else (some false))
def mailroomlaw07_awake.f (k : Nat)  : Option (Bool) := (cmd_Parse.f (⟨#[101, 104, 108, 111, 32, 109, 120, 46, 101, 120, 97, 109, 112, 108, 101]⟩ : ByteArray)).bind fun bt143 => ((mailroomlaw07_all.f).bind fun bt150 => ((cmd_Mail.f (⟨#[97, 64, 98, 46, 99]⟩ : ByteArray) bt150.1 bt150.2.1 bt150.2.2.1 bt150.2.2.2.1 bt150.2.2.2.2.1 bt150.2.2.2.2.2.1 bt150.2.2.2.2.2.2 100 true (⟨#[120]⟩ : ByteArray)).bind fun bt157 => ((mailroomlaw07_shown.f bt157.1 bt157.2.1 bt157.2.2.1 bt157.2.2.2).bind fun t163 => (if t163.toList = ([77, 65, 73, 76, 32, 70, 82, 79, 77, 58, 60, 97, 64, 98, 46, 99, 62, 32, 83, 73, 90, 69, 61, 49, 48, 48, 32, 82, 69, 81, 85, 73, 82, 69, 84, 76, 83, 32, 69, 78, 86, 73, 68, 61, 120] : List UInt8) then ((cmd_Mail.f (⟨#[97, 64, 98, 46, 99]⟩ : ByteArray) false false false false false false 0 100 true (⟨#[120]⟩ : ByteArray)).bind fun bt164 => ((mailroomlaw07_shown.f bt164.1 bt164.2.1 bt164.2.2.1 bt164.2.2.2).bind fun t170 => (if t170.toList = ([77, 65, 73, 76, 32, 70, 82, 79, 77, 58, 60, 97, 64, 98, 46, 99, 62] : List UInt8) then ((cmd_Mail.f (⟨#[]⟩ : ByteArray) false false false false false false 0 0 false (⟨#[]⟩ : ByteArray)).bind fun bt171 => ((mailroomlaw07_shown.f bt171.1 bt171.2.1 bt171.2.2.1 bt171.2.2.2).bind fun t177 => (if t177.toList = ([77, 65, 73, 76, 32, 70, 82, 79, 77, 58, 60, 62] : List UInt8) then ((cmd_Rcpt.f k (⟨#[100, 64, 101, 46, 102]⟩ : ByteArray) false false false true false false 0 true).bind fun bt178 => ((mailroomlaw07_shown.f bt178.1 bt178.2.1 bt178.2.2.1 bt178.2.2.2).bind fun t184 => (mailroomlaw07_awake.j0 k bt143.2.2.2 (t184.toList != ([82, 67, 80, 84, 32, 84, 79, 58, 60, 100, 64, 101, 46, 102, 62, 32, 78, 79, 84, 73, 70, 89, 61, 78, 69, 86, 69, 82] : List UInt8)) bt143.1 bt143.2.1 bt143.2.2.1))) else (mailroomlaw07_awake.j0 k bt143.2.2.2 true bt143.1 bt143.2.1 bt143.2.2.1)))) else (mailroomlaw07_awake.j0 k bt143.2.2.2 true bt143.1 bt143.2.1 bt143.2.2.1)))) else (mailroomlaw07_awake.j0 k bt143.2.2.2 true bt143.1 bt143.2.1 bt143.2.2.1)))))
theorem mailroomlaw07_awake.mono_l : ∀ k, (∀ y0 y1 y2 y3 y4, LeO (mailroomlaw07_awake.j0 k y0 y1 y2 y3 y4) (mailroomlaw07_awake.j0 (k + 1) y0 y1 y2 y3 y4))
 | 0 => fun _ _ _ _ _ r h => by simp [mailroomlaw07_awake.j0] at h
 | k + 1 => by
  have ih0 := mailroomlaw07_awake.mono_l k
  ·intro y0 y1 y2 y3 y4
   unfold mailroomlaw07_awake.j0
   repeat' first
   | (with_reducible exact ih0 _ _ _ _ _)
   | (with_reducible exact cmd_Rcpt.mono _ _ _ _ _ _ _ _ _ _)
   | (with_reducible exact LeO.refl _)
   | (with_reducible exact LeO.none _)
   | (with_reducible refine LeO.ite ?_ ?_)
   | (with_reducible refine LeO.bind ?_ (fun _ => ?_))
   | exact ih0 _ _ _ _ _
   | exact cmd_Rcpt.mono _ _ _ _ _ _ _ _ _ _
   | exact LeO.none _
   | refine LeO.ite ?_ ?_
   | refine LeO.bind ?_ (fun _ => ?_)
theorem mailroomlaw07_awake.mono : ∀ k, LeO (mailroomlaw07_awake.f k ) (mailroomlaw07_awake.f (k + 1) ) := by
 intro  k
 have ih0 := mailroomlaw07_awake.mono_l k
 unfold mailroomlaw07_awake.f
 repeat' first
   | (with_reducible exact ih0 _ _ _ _ _)
   | (with_reducible exact cmd_Rcpt.mono _ _ _ _ _ _ _ _ _ _)
   | (with_reducible exact LeO.refl _)
   | (with_reducible exact LeO.none _)
   | (with_reducible refine LeO.ite ?_ ?_)
   | (with_reducible refine LeO.bind ?_ (fun _ => ?_))
   | exact ih0 _ _ _ _ _
   | exact cmd_Rcpt.mono _ _ _ _ _ _ _ _ _ _
   | exact LeO.none _
   | refine LeO.ite ?_ ?_
   | refine LeO.bind ?_ (fun _ => ?_)
set_option maxHeartbeats 8000000 in
set_option maxRecDepth 100000 in
theorem mailroomlaw07_awake.calls (k : Nat)  (r : Bool) (w : World) (h : mailroomlaw07_awake.f k  = some r) (hG : GL w) :
  Calls Tryz.prog 5 #[] w fun e w' => e = .returned (.bool r) ∧ Below w.heap.size w w' := by
 have hu27 := Tryz.underlying27
 have hu23 := Tryz.underlying23
 have HB := Aside0.mk (Below.refl w.heap.size w)
 have H : ((cmd_Parse.f (⟨#[101, 104, 108, 111, 32, 109, 120, 46, 101, 120, 97, 109, 112, 108, 101]⟩ : ByteArray)).bind fun bt143 => ((mailroomlaw07_all.f).bind fun bt150 => ((cmd_Mail.f (⟨#[97, 64, 98, 46, 99]⟩ : ByteArray) bt150.1 bt150.2.1 bt150.2.2.1 bt150.2.2.2.1 bt150.2.2.2.2.1 bt150.2.2.2.2.2.1 bt150.2.2.2.2.2.2 100 true (⟨#[120]⟩ : ByteArray)).bind fun bt157 => ((mailroomlaw07_shown.f bt157.1 bt157.2.1 bt157.2.2.1 bt157.2.2.2).bind fun t163 => (if t163.toList = ([77, 65, 73, 76, 32, 70, 82, 79, 77, 58, 60, 97, 64, 98, 46, 99, 62, 32, 83, 73, 90, 69, 61, 49, 48, 48, 32, 82, 69, 81, 85, 73, 82, 69, 84, 76, 83, 32, 69, 78, 86, 73, 68, 61, 120] : List UInt8) then ((cmd_Mail.f (⟨#[97, 64, 98, 46, 99]⟩ : ByteArray) false false false false false false 0 100 true (⟨#[120]⟩ : ByteArray)).bind fun bt164 => ((mailroomlaw07_shown.f bt164.1 bt164.2.1 bt164.2.2.1 bt164.2.2.2).bind fun t170 => (if t170.toList = ([77, 65, 73, 76, 32, 70, 82, 79, 77, 58, 60, 97, 64, 98, 46, 99, 62] : List UInt8) then ((cmd_Mail.f (⟨#[]⟩ : ByteArray) false false false false false false 0 0 false (⟨#[]⟩ : ByteArray)).bind fun bt171 => ((mailroomlaw07_shown.f bt171.1 bt171.2.1 bt171.2.2.1 bt171.2.2.2).bind fun t177 => (if t177.toList = ([77, 65, 73, 76, 32, 70, 82, 79, 77, 58, 60, 62] : List UInt8) then ((cmd_Rcpt.f k (⟨#[100, 64, 101, 46, 102]⟩ : ByteArray) false false false true false false 0 true).bind fun bt178 => ((mailroomlaw07_shown.f bt178.1 bt178.2.1 bt178.2.2.1 bt178.2.2.2).bind fun t184 => (mailroomlaw07_awake.j0 k bt143.2.2.2 (t184.toList != ([82, 67, 80, 84, 32, 84, 79, 58, 60, 100, 64, 101, 46, 102, 62, 32, 78, 79, 84, 73, 70, 89, 61, 78, 69, 86, 69, 82] : List UInt8)) bt143.1 bt143.2.1 bt143.2.2.1))) else (mailroomlaw07_awake.j0 k bt143.2.2.2 true bt143.1 bt143.2.1 bt143.2.2.1)))) else (mailroomlaw07_awake.j0 k bt143.2.2.2 true bt143.1 bt143.2.1 bt143.2.2.1)))) else (mailroomlaw07_awake.j0 k bt143.2.2.2 true bt143.1 bt143.2.1 bt143.2.2.1)))))) = some r := h
 clear h
 replace H := Option.bind_eq_some_iff.mp H
 obtain ⟨⟨t143, t144, t145, t148⟩, A10, H⟩ := H
 replace H : ((mailroomlaw07_all.f).bind fun bt150 => ((cmd_Mail.f (⟨#[97, 64, 98, 46, 99]⟩ : ByteArray) bt150.1 bt150.2.1 bt150.2.2.1 bt150.2.2.2.1 bt150.2.2.2.2.1 bt150.2.2.2.2.2.1 bt150.2.2.2.2.2.2 100 true (⟨#[120]⟩ : ByteArray)).bind fun bt157 => ((mailroomlaw07_shown.f bt157.1 bt157.2.1 bt157.2.2.1 bt157.2.2.2).bind fun t163 => (if t163.toList = ([77, 65, 73, 76, 32, 70, 82, 79, 77, 58, 60, 97, 64, 98, 46, 99, 62, 32, 83, 73, 90, 69, 61, 49, 48, 48, 32, 82, 69, 81, 85, 73, 82, 69, 84, 76, 83, 32, 69, 78, 86, 73, 68, 61, 120] : List UInt8) then ((cmd_Mail.f (⟨#[97, 64, 98, 46, 99]⟩ : ByteArray) false false false false false false 0 100 true (⟨#[120]⟩ : ByteArray)).bind fun bt164 => ((mailroomlaw07_shown.f bt164.1 bt164.2.1 bt164.2.2.1 bt164.2.2.2).bind fun t170 => (if t170.toList = ([77, 65, 73, 76, 32, 70, 82, 79, 77, 58, 60, 97, 64, 98, 46, 99, 62] : List UInt8) then ((cmd_Mail.f (⟨#[]⟩ : ByteArray) false false false false false false 0 0 false (⟨#[]⟩ : ByteArray)).bind fun bt171 => ((mailroomlaw07_shown.f bt171.1 bt171.2.1 bt171.2.2.1 bt171.2.2.2).bind fun t177 => (if t177.toList = ([77, 65, 73, 76, 32, 70, 82, 79, 77, 58, 60, 62] : List UInt8) then ((cmd_Rcpt.f k (⟨#[100, 64, 101, 46, 102]⟩ : ByteArray) false false false true false false 0 true).bind fun bt178 => ((mailroomlaw07_shown.f bt178.1 bt178.2.1 bt178.2.2.1 bt178.2.2.2).bind fun t184 => (mailroomlaw07_awake.j0 k t148 (t184.toList != ([82, 67, 80, 84, 32, 84, 79, 58, 60, 100, 64, 101, 46, 102, 62, 32, 78, 79, 84, 73, 70, 89, 61, 78, 69, 86, 69, 82] : List UInt8)) t143 t144 t145))) else (mailroomlaw07_awake.j0 k t148 true t143 t144 t145)))) else (mailroomlaw07_awake.j0 k t148 true t143 t144 t145)))) else (mailroomlaw07_awake.j0 k t148 true t143 t144 t145))))) = some r := H
 have A1 := Aside0.mk A10
 clear A10
 have HC2 := Aside0.mk H
 clear H
 go_enter Tryz.func5, Tryz.ntmps5
 go_upto_region 2 with (first | ((with_reducible refine gate_callee (f := 21) rfl ?_); refine goesL_ (some 4) rfl rfl Tryz.func21 (by kernel_rfl) rfl #[.string (⟨#[101, 104, 108, 111, 32, 109, 120, 46, 101, 120, 97, 109, 112, 108, 101]⟩ : ByteArray)] rfl (by (try simp only [List.map_toArray, List.map_cons, List.map_nil]); first | done | rfl | (simp only [List.length_drop, List.length_take]; rfl)) ?_; (with_reducible refine (cmd_Parse.calls (⟨#[101, 104, 108, 111, 32, 109, 120, 46, 101, 120, 97, 109, 112, 108, 101]⟩ : ByteArray) t143 t144 t145 t148 _ A1.out).mono ?_); rintro e w3 ⟨v146, rfl, ho0, hb⟩; refine ⟨_, rfl, ?_⟩; have n0_ := Aside0.mk (Kd.R_lower ho0 (below_size (by repeat (first | (with_reducible first | exact HB.out | apply below_alloc | apply pw_below_drewN | apply below_drew1) | exact HB.out)))); have n1_ := Aside0.mk (below_step (by repeat (first | (with_reducible first | exact HB.out | apply below_alloc | apply pw_below_drewN | apply below_drew1) | exact HB.out)) hb); clear HB; have HO147 := n0_; have HB := n1_; clear n0_ n1_; (try clear hb); (try clear hb2); (try clear hk); (try clear hi); (try clear ho0)) | ((with_reducible refine gate_dst (N := 1) rfl ?_); (try (refine gate_guard (by rfl) ?_; dsimp only)); refine box_event ?hg (N := 1) ?hd (cs := #[.int .u8 0, .string (⟨#[]⟩ : ByteArray), .slice none 0 0]) (t := 27) ?hr ?_; (case hd => rfl); (case hg => rfl); (case hr => first | (go_simp; done) | (go_simp; rfl)); intro gb149 hg w4 hbox hb; have n0_ := Aside0.mk (Kd.R_below (by (with_reducible repeat (first | apply Kd.R_alloc | apply Kd.R_drewN | apply Kd.R_drew)); exact HO147.out) hb); have n1_ := Aside0.mk (below_step (by repeat (first | (with_reducible first | exact HB.out | apply below_alloc | apply pw_below_drewN | apply below_drew1) | exact HB.out)) hb); have n2_ := Aside0.mk (hbox); have n3_ := Aside0.mk ((by rw [hg]; exact (below_size (by repeat (first | (with_reducible first | exact HB.out | apply below_alloc | apply pw_below_drewN | apply below_drew1) | exact HB.out))) : w.heap.size ≤ gb149)); have n4_ := Aside0.mk ((by rw [hg]; exact (below_size (by repeat (first | (with_reducible first | exact HB.out | apply below_alloc | apply pw_below_drewN | apply below_drew1) | exact HB.out))) : w.heap.size ≤ gb149)); clear HO147; clear HB; have HO147 := n0_; have HB := n1_; have BK149 := n2_; have GW149 := n3_; have GE149 := n4_; clear n0_ n1_ n2_ n3_ n4_; clear hb hbox hg; have hcz5_0 : w4.cell? ⟨gb149, 0, none⟩ = some (.int .u8 0) := (blk_cell BK149.out 0).trans rfl; have hcz5_1 : w4.cell? ⟨gb149, 1, none⟩ = some (.string (⟨#[]⟩ : ByteArray)) := (blk_cell BK149.out 1).trans rfl; have hcz5_2 : w4.cell? ⟨gb149, 2, none⟩ = some (.slice none 0 0) := (blk_cell BK149.out 2).trans rfl; have hfz5_0 := blk_frozen BK149.out 0; have hfz5_1 := blk_frozen BK149.out 1; have hfz5_2 := blk_frozen BK149.out 2; obtain ⟨Ao6, co6, eo6⟩ := Kd.R_slice HO147.out; subst eo6))
 (try simp only [Act.put, List.setIfInBounds_toArray, List.set_cons_zero, List.set_cons_succ])
 go_cut [36] (fun v36 wc => ∃ (kq : Nat) (x36_1 : Bool), v36 = .bool x36_1 ∧ Aside0 (mailroomlaw07_awake.j0 kq t148 x36_1 t143 t144 t145 = some r) ∧ Aside0 (kq ≤ k) ∧ Aside0 (Kd.R k56 56 wc w.heap.size (fun _ => True) (.slice Ao6 t145.length co6) t145) ∧ Aside0 (wc.heap[gb149]? = some (.cells #[.int .u8 t143, .string t144, (.slice Ao6 t145.length co6)] 27 (0, 0))) ∧ Aside0 (Below w.heap.size w wc))
 case first =>
  have H := HC2.out
  clear HC2
  replace H := Option.bind_eq_some_iff.mp H
  obtain ⟨⟨t150, t151, t152, t153, t154, t155, t156⟩, A70, H⟩ := H
  replace H : ((cmd_Mail.f (⟨#[97, 64, 98, 46, 99]⟩ : ByteArray) t150 t151 t152 t153 t154 t155 t156 100 true (⟨#[120]⟩ : ByteArray)).bind fun bt157 => ((mailroomlaw07_shown.f bt157.1 bt157.2.1 bt157.2.2.1 bt157.2.2.2).bind fun t163 => (if t163.toList = ([77, 65, 73, 76, 32, 70, 82, 79, 77, 58, 60, 97, 64, 98, 46, 99, 62, 32, 83, 73, 90, 69, 61, 49, 48, 48, 32, 82, 69, 81, 85, 73, 82, 69, 84, 76, 83, 32, 69, 78, 86, 73, 68, 61, 120] : List UInt8) then ((cmd_Mail.f (⟨#[97, 64, 98, 46, 99]⟩ : ByteArray) false false false false false false 0 100 true (⟨#[120]⟩ : ByteArray)).bind fun bt164 => ((mailroomlaw07_shown.f bt164.1 bt164.2.1 bt164.2.2.1 bt164.2.2.2).bind fun t170 => (if t170.toList = ([77, 65, 73, 76, 32, 70, 82, 79, 77, 58, 60, 97, 64, 98, 46, 99, 62] : List UInt8) then ((cmd_Mail.f (⟨#[]⟩ : ByteArray) false false false false false false 0 0 false (⟨#[]⟩ : ByteArray)).bind fun bt171 => ((mailroomlaw07_shown.f bt171.1 bt171.2.1 bt171.2.2.1 bt171.2.2.2).bind fun t177 => (if t177.toList = ([77, 65, 73, 76, 32, 70, 82, 79, 77, 58, 60, 62] : List UInt8) then ((cmd_Rcpt.f k (⟨#[100, 64, 101, 46, 102]⟩ : ByteArray) false false false true false false 0 true).bind fun bt178 => ((mailroomlaw07_shown.f bt178.1 bt178.2.1 bt178.2.2.1 bt178.2.2.2).bind fun t184 => (mailroomlaw07_awake.j0 k t148 (t184.toList != ([82, 67, 80, 84, 32, 84, 79, 58, 60, 100, 64, 101, 46, 102, 62, 32, 78, 79, 84, 73, 70, 89, 61, 78, 69, 86, 69, 82] : List UInt8)) t143 t144 t145))) else (mailroomlaw07_awake.j0 k t148 true t143 t144 t145)))) else (mailroomlaw07_awake.j0 k t148 true t143 t144 t145)))) else (mailroomlaw07_awake.j0 k t148 true t143 t144 t145)))) = some r := H
  have A7 := Aside0.mk A70
  clear A70
  replace H := Option.bind_eq_some_iff.mp H
  obtain ⟨⟨t157, t158, t159, t162⟩, A80, H⟩ := H
  replace H : ((mailroomlaw07_shown.f t157 t158 t159 t162).bind fun t163 => (if t163.toList = ([77, 65, 73, 76, 32, 70, 82, 79, 77, 58, 60, 97, 64, 98, 46, 99, 62, 32, 83, 73, 90, 69, 61, 49, 48, 48, 32, 82, 69, 81, 85, 73, 82, 69, 84, 76, 83, 32, 69, 78, 86, 73, 68, 61, 120] : List UInt8) then ((cmd_Mail.f (⟨#[97, 64, 98, 46, 99]⟩ : ByteArray) false false false false false false 0 100 true (⟨#[120]⟩ : ByteArray)).bind fun bt164 => ((mailroomlaw07_shown.f bt164.1 bt164.2.1 bt164.2.2.1 bt164.2.2.2).bind fun t170 => (if t170.toList = ([77, 65, 73, 76, 32, 70, 82, 79, 77, 58, 60, 97, 64, 98, 46, 99, 62] : List UInt8) then ((cmd_Mail.f (⟨#[]⟩ : ByteArray) false false false false false false 0 0 false (⟨#[]⟩ : ByteArray)).bind fun bt171 => ((mailroomlaw07_shown.f bt171.1 bt171.2.1 bt171.2.2.1 bt171.2.2.2).bind fun t177 => (if t177.toList = ([77, 65, 73, 76, 32, 70, 82, 79, 77, 58, 60, 62] : List UInt8) then ((cmd_Rcpt.f k (⟨#[100, 64, 101, 46, 102]⟩ : ByteArray) false false false true false false 0 true).bind fun bt178 => ((mailroomlaw07_shown.f bt178.1 bt178.2.1 bt178.2.2.1 bt178.2.2.2).bind fun t184 => (mailroomlaw07_awake.j0 k t148 (t184.toList != ([82, 67, 80, 84, 32, 84, 79, 58, 60, 100, 64, 101, 46, 102, 62, 32, 78, 79, 84, 73, 70, 89, 61, 78, 69, 86, 69, 82] : List UInt8)) t143 t144 t145))) else (mailroomlaw07_awake.j0 k t148 true t143 t144 t145)))) else (mailroomlaw07_awake.j0 k t148 true t143 t144 t145)))) else (mailroomlaw07_awake.j0 k t148 true t143 t144 t145))) = some r := H
  have A8 := Aside0.mk A80
  clear A80
  replace H := Option.bind_eq_some_iff.mp H
  obtain ⟨t163, A90, H⟩ := H
  replace H : (if t163.toList = ([77, 65, 73, 76, 32, 70, 82, 79, 77, 58, 60, 97, 64, 98, 46, 99, 62, 32, 83, 73, 90, 69, 61, 49, 48, 48, 32, 82, 69, 81, 85, 73, 82, 69, 84, 76, 83, 32, 69, 78, 86, 73, 68, 61, 120] : List UInt8) then ((cmd_Mail.f (⟨#[97, 64, 98, 46, 99]⟩ : ByteArray) false false false false false false 0 100 true (⟨#[120]⟩ : ByteArray)).bind fun bt164 => ((mailroomlaw07_shown.f bt164.1 bt164.2.1 bt164.2.2.1 bt164.2.2.2).bind fun t170 => (if t170.toList = ([77, 65, 73, 76, 32, 70, 82, 79, 77, 58, 60, 97, 64, 98, 46, 99, 62] : List UInt8) then ((cmd_Mail.f (⟨#[]⟩ : ByteArray) false false false false false false 0 0 false (⟨#[]⟩ : ByteArray)).bind fun bt171 => ((mailroomlaw07_shown.f bt171.1 bt171.2.1 bt171.2.2.1 bt171.2.2.2).bind fun t177 => (if t177.toList = ([77, 65, 73, 76, 32, 70, 82, 79, 77, 58, 60, 62] : List UInt8) then ((cmd_Rcpt.f k (⟨#[100, 64, 101, 46, 102]⟩ : ByteArray) false false false true false false 0 true).bind fun bt178 => ((mailroomlaw07_shown.f bt178.1 bt178.2.1 bt178.2.2.1 bt178.2.2.2).bind fun t184 => (mailroomlaw07_awake.j0 k t148 (t184.toList != ([82, 67, 80, 84, 32, 84, 79, 58, 60, 100, 64, 101, 46, 102, 62, 32, 78, 79, 84, 73, 70, 89, 61, 78, 69, 86, 69, 82] : List UInt8)) t143 t144 t145))) else (mailroomlaw07_awake.j0 k t148 true t143 t144 t145)))) else (mailroomlaw07_awake.j0 k t148 true t143 t144 t145)))) else (mailroomlaw07_awake.j0 k t148 true t143 t144 t145)) = some r := H
  have A9 := Aside0.mk A90
  clear A90
  by_cases c10 : t163.toList = ([77, 65, 73, 76, 32, 70, 82, 79, 77, 58, 60, 97, 64, 98, 46, 99, 62, 32, 83, 73, 90, 69, 61, 49, 48, 48, 32, 82, 69, 81, 85, 73, 82, 69, 84, 76, 83, 32, 69, 78, 86, 73, 68, 61, 120] : List UInt8)
  ·rw [if_pos c10] at H
   have c10b0 : (t163.toList == ([77, 65, 73, 76, 32, 70, 82, 79, 77, 58, 60, 97, 64, 98, 46, 99, 62, 32, 83, 73, 90, 69, 61, 49, 48, 48, 32, 82, 69, 81, 85, 73, 82, 69, 84, 76, 83, 32, 69, 78, 86, 73, 68, 61, 120] : List UInt8)) = true := beq_iff_eq.mpr c10
   have c10b1 : (t163.toList != ([77, 65, 73, 76, 32, 70, 82, 79, 77, 58, 60, 97, 64, 98, 46, 99, 62, 32, 83, 73, 90, 69, 61, 49, 48, 48, 32, 82, 69, 81, 85, 73, 82, 69, 84, 76, 83, 32, 69, 78, 86, 73, 68, 61, 120] : List UInt8)) = false := bne_eq_false_iff_eq.mpr c10
   clear c10
   (first | rw [c10b0] | (simp only [i64_w, i32_w]; rw [c10b0]) | skip)
   replace H := Option.bind_eq_some_iff.mp H
   obtain ⟨⟨t164, t165, t166, t169⟩, A110, H⟩ := H
   replace H : ((mailroomlaw07_shown.f t164 t165 t166 t169).bind fun t170 => (if t170.toList = ([77, 65, 73, 76, 32, 70, 82, 79, 77, 58, 60, 97, 64, 98, 46, 99, 62] : List UInt8) then ((cmd_Mail.f (⟨#[]⟩ : ByteArray) false false false false false false 0 0 false (⟨#[]⟩ : ByteArray)).bind fun bt171 => ((mailroomlaw07_shown.f bt171.1 bt171.2.1 bt171.2.2.1 bt171.2.2.2).bind fun t177 => (if t177.toList = ([77, 65, 73, 76, 32, 70, 82, 79, 77, 58, 60, 62] : List UInt8) then ((cmd_Rcpt.f k (⟨#[100, 64, 101, 46, 102]⟩ : ByteArray) false false false true false false 0 true).bind fun bt178 => ((mailroomlaw07_shown.f bt178.1 bt178.2.1 bt178.2.2.1 bt178.2.2.2).bind fun t184 => (mailroomlaw07_awake.j0 k t148 (t184.toList != ([82, 67, 80, 84, 32, 84, 79, 58, 60, 100, 64, 101, 46, 102, 62, 32, 78, 79, 84, 73, 70, 89, 61, 78, 69, 86, 69, 82] : List UInt8)) t143 t144 t145))) else (mailroomlaw07_awake.j0 k t148 true t143 t144 t145)))) else (mailroomlaw07_awake.j0 k t148 true t143 t144 t145))) = some r := H
   have A11 := Aside0.mk A110
   clear A110
   replace H := Option.bind_eq_some_iff.mp H
   obtain ⟨t170, A120, H⟩ := H
   replace H : (if t170.toList = ([77, 65, 73, 76, 32, 70, 82, 79, 77, 58, 60, 97, 64, 98, 46, 99, 62] : List UInt8) then ((cmd_Mail.f (⟨#[]⟩ : ByteArray) false false false false false false 0 0 false (⟨#[]⟩ : ByteArray)).bind fun bt171 => ((mailroomlaw07_shown.f bt171.1 bt171.2.1 bt171.2.2.1 bt171.2.2.2).bind fun t177 => (if t177.toList = ([77, 65, 73, 76, 32, 70, 82, 79, 77, 58, 60, 62] : List UInt8) then ((cmd_Rcpt.f k (⟨#[100, 64, 101, 46, 102]⟩ : ByteArray) false false false true false false 0 true).bind fun bt178 => ((mailroomlaw07_shown.f bt178.1 bt178.2.1 bt178.2.2.1 bt178.2.2.2).bind fun t184 => (mailroomlaw07_awake.j0 k t148 (t184.toList != ([82, 67, 80, 84, 32, 84, 79, 58, 60, 100, 64, 101, 46, 102, 62, 32, 78, 79, 84, 73, 70, 89, 61, 78, 69, 86, 69, 82] : List UInt8)) t143 t144 t145))) else (mailroomlaw07_awake.j0 k t148 true t143 t144 t145)))) else (mailroomlaw07_awake.j0 k t148 true t143 t144 t145)) = some r := H
   have A12 := Aside0.mk A120
   clear A120
   by_cases c13 : t170.toList = ([77, 65, 73, 76, 32, 70, 82, 79, 77, 58, 60, 97, 64, 98, 46, 99, 62] : List UInt8)
   ·rw [if_pos c13] at H
    have c13b0 : (t170.toList == ([77, 65, 73, 76, 32, 70, 82, 79, 77, 58, 60, 97, 64, 98, 46, 99, 62] : List UInt8)) = true := beq_iff_eq.mpr c13
    have c13b1 : (t170.toList != ([77, 65, 73, 76, 32, 70, 82, 79, 77, 58, 60, 97, 64, 98, 46, 99, 62] : List UInt8)) = false := bne_eq_false_iff_eq.mpr c13
    clear c13
    replace H := Option.bind_eq_some_iff.mp H
    obtain ⟨⟨t171, t172, t173, t176⟩, A140, H⟩ := H
    replace H : ((mailroomlaw07_shown.f t171 t172 t173 t176).bind fun t177 => (if t177.toList = ([77, 65, 73, 76, 32, 70, 82, 79, 77, 58, 60, 62] : List UInt8) then ((cmd_Rcpt.f k (⟨#[100, 64, 101, 46, 102]⟩ : ByteArray) false false false true false false 0 true).bind fun bt178 => ((mailroomlaw07_shown.f bt178.1 bt178.2.1 bt178.2.2.1 bt178.2.2.2).bind fun t184 => (mailroomlaw07_awake.j0 k t148 (t184.toList != ([82, 67, 80, 84, 32, 84, 79, 58, 60, 100, 64, 101, 46, 102, 62, 32, 78, 79, 84, 73, 70, 89, 61, 78, 69, 86, 69, 82] : List UInt8)) t143 t144 t145))) else (mailroomlaw07_awake.j0 k t148 true t143 t144 t145))) = some r := H
    have A14 := Aside0.mk A140
    clear A140
    replace H := Option.bind_eq_some_iff.mp H
    obtain ⟨t177, A150, H⟩ := H
    replace H : (if t177.toList = ([77, 65, 73, 76, 32, 70, 82, 79, 77, 58, 60, 62] : List UInt8) then ((cmd_Rcpt.f k (⟨#[100, 64, 101, 46, 102]⟩ : ByteArray) false false false true false false 0 true).bind fun bt178 => ((mailroomlaw07_shown.f bt178.1 bt178.2.1 bt178.2.2.1 bt178.2.2.2).bind fun t184 => (mailroomlaw07_awake.j0 k t148 (t184.toList != ([82, 67, 80, 84, 32, 84, 79, 58, 60, 100, 64, 101, 46, 102, 62, 32, 78, 79, 84, 73, 70, 89, 61, 78, 69, 86, 69, 82] : List UInt8)) t143 t144 t145))) else (mailroomlaw07_awake.j0 k t148 true t143 t144 t145)) = some r := H
    have A15 := Aside0.mk A150
    clear A150
    by_cases c16 : t177.toList = ([77, 65, 73, 76, 32, 70, 82, 79, 77, 58, 60, 62] : List UInt8)
    ·rw [if_pos c16] at H
     have c16b0 : (t177.toList == ([77, 65, 73, 76, 32, 70, 82, 79, 77, 58, 60, 62] : List UInt8)) = true := beq_iff_eq.mpr c16
     have c16b1 : (t177.toList != ([77, 65, 73, 76, 32, 70, 82, 79, 77, 58, 60, 62] : List UInt8)) = false := bne_eq_false_iff_eq.mpr c16
     clear c16
     replace H := Option.bind_eq_some_iff.mp H
     obtain ⟨⟨t178, t179, t180, t183⟩, A170, H⟩ := H
     replace H : ((mailroomlaw07_shown.f t178 t179 t180 t183).bind fun t184 => (mailroomlaw07_awake.j0 k t148 (t184.toList != ([82, 67, 80, 84, 32, 84, 79, 58, 60, 100, 64, 101, 46, 102, 62, 32, 78, 79, 84, 73, 70, 89, 61, 78, 69, 86, 69, 82] : List UInt8)) t143 t144 t145)) = some r := H
     have A17 := Aside0.mk A170
     clear A170
     replace H := Option.bind_eq_some_iff.mp H
     obtain ⟨t184, A180, H⟩ := H
     replace H : (mailroomlaw07_awake.j0 k t148 (t184.toList != ([82, 67, 80, 84, 32, 84, 79, 58, 60, 100, 64, 101, 46, 102, 62, 32, 78, 79, 84, 73, 70, 89, 61, 78, 69, 86, 69, 82] : List UInt8)) t143 t144 t145) = some r := H
     have A18 := Aside0.mk A180
     clear A180
     have H' := Aside0.mk H
     clear H
     go_wp2_with (first | ((with_reducible refine gate_callee (f := 24) rfl ?_); refine goesL_ (some 7) rfl rfl Tryz.func24 (by kernel_rfl) rfl #[] rfl (by (try simp only [List.map_toArray, List.map_cons, List.map_nil]); first | done | rfl | (simp only [List.length_drop, List.length_take]; rfl)) ?_; (with_reducible refine (mailroomlaw07_all.calls  t150 t151 t152 t153 t154 t155 t156 _ A7.out).mono ?_); rintro e w19 ⟨rfl, hb⟩; refine ⟨_, rfl, ?_⟩; have n0_ := Aside0.mk (Kd.R_below (by (with_reducible repeat (first | apply Kd.R_alloc | apply Kd.R_drewN | apply Kd.R_drew)); exact (Kd.R_mono (Kd.R_far (p := ⟨gb149, 2, none⟩) (Kd.R_far (p := ⟨gb149, 1, none⟩) (Kd.R_far (p := ⟨gb149, 0, none⟩) (Kd.R_types HO147.out BK149.out (by decide)) (fun _ hk => hk.2) (.int .u8 t143)) (fun _ hk => hk.2) (.string t144)) (fun _ hk => hk.2) (.slice Ao6 t145.length co6)) (fun _ h_ => h_.1))) hb); have n1_ := Aside0.mk (blk_below (g := gb149) (o := .cells #[.int .u8 t143, .string t144, .slice Ao6 t145.length co6] 27 (0, 0)) (by (with_reducible repeat (first | refine blk_drewN ?_ _ | refine blk_drew ?_ | refine blk_alloc ?_ _)); refine blk_put (cs := #[.int .u8 t143, .string t144, .slice none 0 0]) ?_ 2 _ rfl; (with_reducible repeat (first | refine blk_drewN ?_ _ | refine blk_drew ?_ | refine blk_alloc ?_ _)); refine blk_put (cs := #[.int .u8 t143, .string (⟨#[]⟩ : ByteArray), .slice none 0 0]) ?_ 1 _ rfl; (with_reducible repeat (first | refine blk_drewN ?_ _ | refine blk_drew ?_ | refine blk_alloc ?_ _)); refine blk_put (cs := #[.int .u8 0, .string (⟨#[]⟩ : ByteArray), .slice none 0 0]) ?_ 0 _ rfl; (with_reducible repeat (first | refine blk_drewN ?_ _ | refine blk_drew ?_ | refine blk_alloc ?_ _)); exact BK149.out) hb); have n2_ := Aside0.mk (below_step (by repeat (first | (with_reducible first | exact HB.out | apply below_alloc | apply pw_below_drewN | apply below_drew1 | refine below_set ?_ GE149.out) | exact HB.out)) hb); clear HO147; clear BK149; clear HB; have HO147 := n0_; have BK149 := n1_; have HB := n2_; clear n0_ n1_ n2_; (try clear hb); (try clear hb2); (try clear hk); (try clear hi)) | ((with_reducible refine gate_callee (f := 6) rfl ?_); refine goesL_ (some 8) rfl rfl Tryz.func6 (by kernel_rfl) rfl #[.string (⟨#[97, 64, 98, 46, 99]⟩ : ByteArray), .agg #[.bool t150, .bool t151, .bool t152, .bool t153, .bool t154, .bool t155, .int .i64 t156], .int .i64 100, .bool true, .string (⟨#[120]⟩ : ByteArray)] rfl (by (try simp only [List.map_toArray, List.map_cons, List.map_nil]); first | done | rfl | (simp only [List.length_drop, List.length_take]; rfl)) ?_; (with_reducible refine (cmd_Mail.calls (⟨#[97, 64, 98, 46, 99]⟩ : ByteArray) t150 t151 t152 t153 t154 t155 t156 100 true (⟨#[120]⟩ : ByteArray) t157 t158 t159 t162 _ A8.out (GL.of_below hG (by repeat (first | (with_reducible first | exact HB.out | exact Below.refl _ _ | apply below_alloc | apply pw_below_drewN | apply below_drew1) | exact HB.out | exact hb | refine below_set ?_ (by assumption))))).mono ?_); rintro e w20 ⟨v160, rfl, ho0, hb⟩; refine ⟨_, rfl, ?_⟩; have n0_ := Aside0.mk (Kd.R_elder' (by (with_reducible repeat (first | apply Kd.R_alloc | apply Kd.R_drewN | apply Kd.R_drew)); exact HO147.out) (Kd.R_base ho0) hb); have n1_ := Aside0.mk (Kd.R_lower (Kd.R_new' ho0 (Kd.R_lt (by (with_reducible repeat (first | apply Kd.R_alloc | apply Kd.R_drewN | apply Kd.R_drew)); exact HO147.out))) (below_size (by repeat (first | (with_reducible first | exact HB.out | apply below_alloc | apply pw_below_drewN | apply below_drew1 | refine below_set ?_ GE149.out) | exact HB.out)))); have n2_ := Aside0.mk (blk_below (g := gb149) (o := .cells #[.int .u8 t143, .string t144, .slice Ao6 t145.length co6] 27 (0, 0)) (by (with_reducible repeat (first | refine blk_drewN ?_ _ | refine blk_drew ?_ | refine blk_alloc ?_ _)); exact BK149.out) hb); have n3_ := Aside0.mk (below_step (by repeat (first | (with_reducible first | exact HB.out | apply below_alloc | apply pw_below_drewN | apply below_drew1 | refine below_set ?_ GE149.out) | exact HB.out)) hb); clear HO147; clear BK149; clear HB; have HO147 := n0_; have HO161 := n1_; have BK149 := n2_; have HB := n3_; clear n0_ n1_ n2_ n3_; (try clear hb); (try clear hb2); (try clear hk); (try clear hi); (try clear ho0); obtain ⟨Ao21, co21, eo21⟩ := Kd.R_slice HO161.out; subst eo21) | ((with_reducible refine gate_callee (f := 23) rfl ?_); refine goesL_ (some 11) rfl rfl Tryz.func23 (by kernel_rfl) rfl #[.agg #[.int .u8 t157, .string t158, .slice Ao21 t159.length co21], .int .i64 t162] rfl (by (try simp only [List.map_toArray, List.map_cons, List.map_nil]); first | done | rfl | (simp only [List.length_drop, List.length_take]; rfl)) ?_; (with_reducible refine (mailroomlaw07_shown.calls t157 t158 _ _ t159 t162 t163 _ ?side1 ?side2 A9.out).mono ?_); (case side1 => repeat (first | exact (Kd.R_reads' HO161.out).2.2 | (with_reducible refine Kd.C_alloc ?_ _) | (with_reducible refine Kd.C_drewN ?_ _) | (with_reducible refine Kd.C_drew ?_))); (case side2 => exact (Kd.R_reads' HO161.out).2.1); rintro e w22 ⟨rfl, hb⟩; refine ⟨_, rfl, ?_⟩; have n0_ := Aside0.mk (Kd.R_below (by (with_reducible repeat (first | apply Kd.R_alloc | apply Kd.R_drewN | apply Kd.R_drew)); exact HO147.out) hb); have n1_ := Aside0.mk (Kd.R_below (by (with_reducible repeat (first | apply Kd.R_alloc | apply Kd.R_drewN | apply Kd.R_drew)); exact HO161.out) hb); have n2_ := Aside0.mk (blk_below (g := gb149) (o := .cells #[.int .u8 t143, .string t144, .slice Ao6 t145.length co6] 27 (0, 0)) (by (with_reducible repeat (first | refine blk_drewN ?_ _ | refine blk_drew ?_ | refine blk_alloc ?_ _)); exact BK149.out) hb); have n3_ := Aside0.mk (below_step (by repeat (first | (with_reducible first | exact HB.out | apply below_alloc | apply pw_below_drewN | apply below_drew1 | refine below_set ?_ GE149.out) | exact HB.out)) hb); clear HO147; clear HO161; clear BK149; clear HB; have HO147 := n0_; have HO161 := n1_; have BK149 := n2_; have HB := n3_; clear n0_ n1_ n2_ n3_; (try clear hb); (try clear hb2); (try clear hk); (try clear hi)) | (go_at_call 6; (with_reducible refine (cmd_Mail.calls (⟨#[97, 64, 98, 46, 99]⟩ : ByteArray) false false false false false false 0 100 true (⟨#[120]⟩ : ByteArray) t164 t165 t166 t169 _ A11.out (GL.of_below hG (by repeat (first | (with_reducible first | exact HB.out | exact Below.refl _ _ | apply below_alloc | apply pw_below_drewN | apply below_drew1) | exact HB.out | exact hb | refine below_set ?_ (by assumption))))).mono ?_); rintro e w23 ⟨v167, rfl, ho0, hb⟩; have n0_ := Aside0.mk (Kd.R_elder' (by (with_reducible repeat (first | apply Kd.R_alloc | apply Kd.R_drewN | apply Kd.R_drew)); exact HO147.out) (Kd.R_base ho0) hb); have n1_ := Aside0.mk (Kd.R_elder' (by (with_reducible repeat (first | apply Kd.R_alloc | apply Kd.R_drewN | apply Kd.R_drew)); exact HO161.out) (Kd.R_base ho0) hb); have n2_ := Aside0.mk (Kd.R_lower (Kd.R_new' (Kd.R_new' ho0 (Kd.R_lt (by (with_reducible repeat (first | apply Kd.R_alloc | apply Kd.R_drewN | apply Kd.R_drew)); exact HO147.out))) (Kd.R_lt (by (with_reducible repeat (first | apply Kd.R_alloc | apply Kd.R_drewN | apply Kd.R_drew)); exact HO161.out))) (below_size (by repeat (first | (with_reducible first | exact HB.out | apply below_alloc | apply pw_below_drewN | apply below_drew1 | refine below_set ?_ GE149.out) | exact HB.out)))); have n3_ := Aside0.mk (blk_below (g := gb149) (o := .cells #[.int .u8 t143, .string t144, .slice Ao6 t145.length co6] 27 (0, 0)) (by (with_reducible repeat (first | refine blk_drewN ?_ _ | refine blk_drew ?_ | refine blk_alloc ?_ _)); exact BK149.out) hb); have n4_ := Aside0.mk (below_step (by repeat (first | (with_reducible first | exact HB.out | apply below_alloc | apply pw_below_drewN | apply below_drew1 | refine below_set ?_ GE149.out) | exact HB.out)) hb); clear HO147; clear HO161; clear BK149; clear HB; have HO147 := n0_; have HO161 := n1_; have HO168 := n2_; have BK149 := n3_; have HB := n4_; clear n0_ n1_ n2_ n3_ n4_; (try clear hb); (try clear hb2); (try clear hk); (try clear hi); (try clear ho0); obtain ⟨Ao24, co24, eo24⟩ := Kd.R_slice HO168.out; subst eo24) | (go_at_call 23; (with_reducible refine (mailroomlaw07_shown.calls t164 t165 _ _ t166 t169 t170 _ ?side1 ?side2 A12.out).mono ?_); (case side1 => repeat (first | exact (Kd.R_reads' HO168.out).2.2 | (with_reducible refine Kd.C_alloc ?_ _) | (with_reducible refine Kd.C_drewN ?_ _) | (with_reducible refine Kd.C_drew ?_))); (case side2 => exact (Kd.R_reads' HO168.out).2.1); rintro e w25 ⟨rfl, hb⟩; have n0_ := Aside0.mk (Kd.R_below (by (with_reducible repeat (first | apply Kd.R_alloc | apply Kd.R_drewN | apply Kd.R_drew)); exact HO147.out) hb); have n1_ := Aside0.mk (Kd.R_below (by (with_reducible repeat (first | apply Kd.R_alloc | apply Kd.R_drewN | apply Kd.R_drew)); exact HO161.out) hb); have n2_ := Aside0.mk (Kd.R_below (by (with_reducible repeat (first | apply Kd.R_alloc | apply Kd.R_drewN | apply Kd.R_drew)); exact HO168.out) hb); have n3_ := Aside0.mk (blk_below (g := gb149) (o := .cells #[.int .u8 t143, .string t144, .slice Ao6 t145.length co6] 27 (0, 0)) (by (with_reducible repeat (first | refine blk_drewN ?_ _ | refine blk_drew ?_ | refine blk_alloc ?_ _)); exact BK149.out) hb); have n4_ := Aside0.mk (below_step (by repeat (first | (with_reducible first | exact HB.out | apply below_alloc | apply pw_below_drewN | apply below_drew1 | refine below_set ?_ GE149.out) | exact HB.out)) hb); clear HO147; clear HO161; clear HO168; clear BK149; clear HB; have HO147 := n0_; have HO161 := n1_; have HO168 := n2_; have BK149 := n3_; have HB := n4_; clear n0_ n1_ n2_ n3_ n4_; (try clear hb); (try clear hb2); (try clear hk); (try clear hi)) | (go_at_call 6; (with_reducible refine (cmd_Mail.calls (⟨#[]⟩ : ByteArray) false false false false false false 0 0 false (⟨#[]⟩ : ByteArray) t171 t172 t173 t176 _ A14.out (GL.of_below hG (by repeat (first | (with_reducible first | exact HB.out | exact Below.refl _ _ | apply below_alloc | apply pw_below_drewN | apply below_drew1) | exact HB.out | exact hb | refine below_set ?_ (by assumption))))).mono ?_); rintro e w26 ⟨v174, rfl, ho0, hb⟩; have n0_ := Aside0.mk (Kd.R_elder' (by (with_reducible repeat (first | apply Kd.R_alloc | apply Kd.R_drewN | apply Kd.R_drew)); exact HO147.out) (Kd.R_base ho0) hb); have n1_ := Aside0.mk (Kd.R_elder' (by (with_reducible repeat (first | apply Kd.R_alloc | apply Kd.R_drewN | apply Kd.R_drew)); exact HO161.out) (Kd.R_base ho0) hb); have n2_ := Aside0.mk (Kd.R_elder' (by (with_reducible repeat (first | apply Kd.R_alloc | apply Kd.R_drewN | apply Kd.R_drew)); exact HO168.out) (Kd.R_base ho0) hb); have n3_ := Aside0.mk (Kd.R_lower (Kd.R_new' (Kd.R_new' (Kd.R_new' ho0 (Kd.R_lt (by (with_reducible repeat (first | apply Kd.R_alloc | apply Kd.R_drewN | apply Kd.R_drew)); exact HO147.out))) (Kd.R_lt (by (with_reducible repeat (first | apply Kd.R_alloc | apply Kd.R_drewN | apply Kd.R_drew)); exact HO161.out))) (Kd.R_lt (by (with_reducible repeat (first | apply Kd.R_alloc | apply Kd.R_drewN | apply Kd.R_drew)); exact HO168.out))) (below_size (by repeat (first | (with_reducible first | exact HB.out | apply below_alloc | apply pw_below_drewN | apply below_drew1 | refine below_set ?_ GE149.out) | exact HB.out)))); have n4_ := Aside0.mk (blk_below (g := gb149) (o := .cells #[.int .u8 t143, .string t144, .slice Ao6 t145.length co6] 27 (0, 0)) (by (with_reducible repeat (first | refine blk_drewN ?_ _ | refine blk_drew ?_ | refine blk_alloc ?_ _)); exact BK149.out) hb); have n5_ := Aside0.mk (below_step (by repeat (first | (with_reducible first | exact HB.out | apply below_alloc | apply pw_below_drewN | apply below_drew1 | refine below_set ?_ GE149.out) | exact HB.out)) hb); clear HO147; clear HO161; clear HO168; clear BK149; clear HB; have HO147 := n0_; have HO161 := n1_; have HO168 := n2_; have HO175 := n3_; have BK149 := n4_; have HB := n5_; clear n0_ n1_ n2_ n3_ n4_ n5_; (try clear hb); (try clear hb2); (try clear hk); (try clear hi); (try clear ho0); obtain ⟨Ao27, co27, eo27⟩ := Kd.R_slice HO175.out; subst eo27) | (go_at_call 23; (with_reducible refine (mailroomlaw07_shown.calls t171 t172 _ _ t173 t176 t177 _ ?side1 ?side2 A15.out).mono ?_); (case side1 => repeat (first | exact (Kd.R_reads' HO175.out).2.2 | (with_reducible refine Kd.C_alloc ?_ _) | (with_reducible refine Kd.C_drewN ?_ _) | (with_reducible refine Kd.C_drew ?_))); (case side2 => exact (Kd.R_reads' HO175.out).2.1); rintro e w28 ⟨rfl, hb⟩; have n0_ := Aside0.mk (Kd.R_below (by (with_reducible repeat (first | apply Kd.R_alloc | apply Kd.R_drewN | apply Kd.R_drew)); exact HO147.out) hb); have n1_ := Aside0.mk (Kd.R_below (by (with_reducible repeat (first | apply Kd.R_alloc | apply Kd.R_drewN | apply Kd.R_drew)); exact HO161.out) hb); have n2_ := Aside0.mk (Kd.R_below (by (with_reducible repeat (first | apply Kd.R_alloc | apply Kd.R_drewN | apply Kd.R_drew)); exact HO168.out) hb); have n3_ := Aside0.mk (Kd.R_below (by (with_reducible repeat (first | apply Kd.R_alloc | apply Kd.R_drewN | apply Kd.R_drew)); exact HO175.out) hb); have n4_ := Aside0.mk (blk_below (g := gb149) (o := .cells #[.int .u8 t143, .string t144, .slice Ao6 t145.length co6] 27 (0, 0)) (by (with_reducible repeat (first | refine blk_drewN ?_ _ | refine blk_drew ?_ | refine blk_alloc ?_ _)); exact BK149.out) hb); have n5_ := Aside0.mk (below_step (by repeat (first | (with_reducible first | exact HB.out | apply below_alloc | apply pw_below_drewN | apply below_drew1 | refine below_set ?_ GE149.out) | exact HB.out)) hb); clear HO147; clear HO161; clear HO168; clear HO175; clear BK149; clear HB; have HO147 := n0_; have HO161 := n1_; have HO168 := n2_; have HO175 := n3_; have BK149 := n4_; have HB := n5_; clear n0_ n1_ n2_ n3_ n4_ n5_; (try clear hb); (try clear hb2); (try clear hk); (try clear hi)) | (go_at_call 8; (with_reducible refine (cmd_Rcpt.calls k (⟨#[100, 64, 101, 46, 102]⟩ : ByteArray) false false false true false false 0 true t178 t179 t180 t183 _ A17.out).mono ?_); rintro e w29 ⟨v181, rfl, ho0, hb⟩; have n0_ := Aside0.mk (Kd.R_elder' (by (with_reducible repeat (first | apply Kd.R_alloc | apply Kd.R_drewN | apply Kd.R_drew)); exact HO147.out) (Kd.R_base ho0) hb); have n1_ := Aside0.mk (Kd.R_elder' (by (with_reducible repeat (first | apply Kd.R_alloc | apply Kd.R_drewN | apply Kd.R_drew)); exact HO161.out) (Kd.R_base ho0) hb); have n2_ := Aside0.mk (Kd.R_elder' (by (with_reducible repeat (first | apply Kd.R_alloc | apply Kd.R_drewN | apply Kd.R_drew)); exact HO168.out) (Kd.R_base ho0) hb); have n3_ := Aside0.mk (Kd.R_elder' (by (with_reducible repeat (first | apply Kd.R_alloc | apply Kd.R_drewN | apply Kd.R_drew)); exact HO175.out) (Kd.R_base ho0) hb); have n4_ := Aside0.mk (Kd.R_lower (Kd.R_new' (Kd.R_new' (Kd.R_new' (Kd.R_new' ho0 (Kd.R_lt (by (with_reducible repeat (first | apply Kd.R_alloc | apply Kd.R_drewN | apply Kd.R_drew)); exact HO147.out))) (Kd.R_lt (by (with_reducible repeat (first | apply Kd.R_alloc | apply Kd.R_drewN | apply Kd.R_drew)); exact HO161.out))) (Kd.R_lt (by (with_reducible repeat (first | apply Kd.R_alloc | apply Kd.R_drewN | apply Kd.R_drew)); exact HO168.out))) (Kd.R_lt (by (with_reducible repeat (first | apply Kd.R_alloc | apply Kd.R_drewN | apply Kd.R_drew)); exact HO175.out))) (below_size (by repeat (first | (with_reducible first | exact HB.out | apply below_alloc | apply pw_below_drewN | apply below_drew1 | refine below_set ?_ GE149.out) | exact HB.out)))); have n5_ := Aside0.mk (blk_below (g := gb149) (o := .cells #[.int .u8 t143, .string t144, .slice Ao6 t145.length co6] 27 (0, 0)) (by (with_reducible repeat (first | refine blk_drewN ?_ _ | refine blk_drew ?_ | refine blk_alloc ?_ _)); exact BK149.out) hb); have n6_ := Aside0.mk (below_step (by repeat (first | (with_reducible first | exact HB.out | apply below_alloc | apply pw_below_drewN | apply below_drew1 | refine below_set ?_ GE149.out) | exact HB.out)) hb); clear HO147; clear HO161; clear HO168; clear HO175; clear BK149; clear HB; have HO147 := n0_; have HO161 := n1_; have HO168 := n2_; have HO175 := n3_; have HO182 := n4_; have BK149 := n5_; have HB := n6_; clear n0_ n1_ n2_ n3_ n4_ n5_ n6_; (try clear hb); (try clear hb2); (try clear hk); (try clear hi); (try clear ho0); obtain ⟨Ao30, co30, eo30⟩ := Kd.R_slice HO182.out; subst eo30) | (go_at_call 23; (with_reducible refine (mailroomlaw07_shown.calls t178 t179 _ _ t180 t183 t184 _ ?side1 ?side2 A18.out).mono ?_); (case side1 => repeat (first | exact (Kd.R_reads' HO182.out).2.2 | (with_reducible refine Kd.C_alloc ?_ _) | (with_reducible refine Kd.C_drewN ?_ _) | (with_reducible refine Kd.C_drew ?_))); (case side2 => exact (Kd.R_reads' HO182.out).2.1); rintro e w31 ⟨rfl, hb⟩; have n0_ := Aside0.mk (Kd.R_below (by (with_reducible repeat (first | apply Kd.R_alloc | apply Kd.R_drewN | apply Kd.R_drew)); exact HO147.out) hb); have n1_ := Aside0.mk (Kd.R_below (by (with_reducible repeat (first | apply Kd.R_alloc | apply Kd.R_drewN | apply Kd.R_drew)); exact HO161.out) hb); have n2_ := Aside0.mk (Kd.R_below (by (with_reducible repeat (first | apply Kd.R_alloc | apply Kd.R_drewN | apply Kd.R_drew)); exact HO168.out) hb); have n3_ := Aside0.mk (Kd.R_below (by (with_reducible repeat (first | apply Kd.R_alloc | apply Kd.R_drewN | apply Kd.R_drew)); exact HO175.out) hb); have n4_ := Aside0.mk (Kd.R_below (by (with_reducible repeat (first | apply Kd.R_alloc | apply Kd.R_drewN | apply Kd.R_drew)); exact HO182.out) hb); have n5_ := Aside0.mk (blk_below (g := gb149) (o := .cells #[.int .u8 t143, .string t144, .slice Ao6 t145.length co6] 27 (0, 0)) (by (with_reducible repeat (first | refine blk_drewN ?_ _ | refine blk_drew ?_ | refine blk_alloc ?_ _)); exact BK149.out) hb); have n6_ := Aside0.mk (below_step (by repeat (first | (with_reducible first | exact HB.out | apply below_alloc | apply pw_below_drewN | apply below_drew1 | refine below_set ?_ GE149.out) | exact HB.out)) hb); clear HO147; clear HO161; clear HO168; clear HO175; clear HO182; clear BK149; clear HB; have HO147 := n0_; have HO161 := n1_; have HO168 := n2_; have HO175 := n3_; have HO182 := n4_; have BK149 := n5_; have HB := n6_; clear n0_ n1_ n2_ n3_ n4_ n5_ n6_; (try clear hb); (try clear hb2); (try clear hk); (try clear hi)))
     go_meet
     case rel => exact ⟨_, ((t184.toList != ([82, 67, 80, 84, 32, 84, 79, 58, 60, 100, 64, 101, 46, 102, 62, 32, 78, 79, 84, 73, 70, 89, 61, 78, 69, 86, 69, 82] : List UInt8))), (by first | rfl | (simp; done) | (simp [*]; done)), H', ⟨by first | omega | exact Nat.le_refl _⟩, ⟨by (with_reducible repeat (first | apply Kd.R_alloc | apply Kd.R_drewN | apply Kd.R_drew)); exact Kd.R_mono HO147.out (fun _ hk => trivial)⟩, ⟨by (with_reducible repeat (first | refine blk_drewN ?_ _ | refine blk_drew ?_ | refine blk_alloc ?_ _)); exact BK149.out⟩, ⟨by repeat (first | (with_reducible first | exact HB.out | apply below_alloc | apply pw_below_drewN | apply below_drew1 | refine below_set ?_ GE149.out) | exact HB.out)⟩⟩
    ·rw [if_neg c16] at H
     have c16b0 : (t177.toList == ([77, 65, 73, 76, 32, 70, 82, 79, 77, 58, 60, 62] : List UInt8)) = false := beq_eq_false_iff_ne.mpr c16
     have c16b1 : (t177.toList != ([77, 65, 73, 76, 32, 70, 82, 79, 77, 58, 60, 62] : List UInt8)) = true := bne_iff_ne.mpr c16
     have H' := Aside0.mk H
     clear H
     go_wp2_with (first | ((with_reducible refine gate_callee (f := 24) rfl ?_); refine goesL_ (some 7) rfl rfl Tryz.func24 (by kernel_rfl) rfl #[] rfl (by (try simp only [List.map_toArray, List.map_cons, List.map_nil]); first | done | rfl | (simp only [List.length_drop, List.length_take]; rfl)) ?_; (with_reducible refine (mailroomlaw07_all.calls  t150 t151 t152 t153 t154 t155 t156 _ A7.out).mono ?_); rintro e w32 ⟨rfl, hb⟩; refine ⟨_, rfl, ?_⟩; have n0_ := Aside0.mk (Kd.R_below (by (with_reducible repeat (first | apply Kd.R_alloc | apply Kd.R_drewN | apply Kd.R_drew)); exact (Kd.R_mono (Kd.R_far (p := ⟨gb149, 2, none⟩) (Kd.R_far (p := ⟨gb149, 1, none⟩) (Kd.R_far (p := ⟨gb149, 0, none⟩) (Kd.R_types HO147.out BK149.out (by decide)) (fun _ hk => hk.2) (.int .u8 t143)) (fun _ hk => hk.2) (.string t144)) (fun _ hk => hk.2) (.slice Ao6 t145.length co6)) (fun _ h_ => h_.1))) hb); have n1_ := Aside0.mk (blk_below (g := gb149) (o := .cells #[.int .u8 t143, .string t144, .slice Ao6 t145.length co6] 27 (0, 0)) (by (with_reducible repeat (first | refine blk_drewN ?_ _ | refine blk_drew ?_ | refine blk_alloc ?_ _)); refine blk_put (cs := #[.int .u8 t143, .string t144, .slice none 0 0]) ?_ 2 _ rfl; (with_reducible repeat (first | refine blk_drewN ?_ _ | refine blk_drew ?_ | refine blk_alloc ?_ _)); refine blk_put (cs := #[.int .u8 t143, .string (⟨#[]⟩ : ByteArray), .slice none 0 0]) ?_ 1 _ rfl; (with_reducible repeat (first | refine blk_drewN ?_ _ | refine blk_drew ?_ | refine blk_alloc ?_ _)); refine blk_put (cs := #[.int .u8 0, .string (⟨#[]⟩ : ByteArray), .slice none 0 0]) ?_ 0 _ rfl; (with_reducible repeat (first | refine blk_drewN ?_ _ | refine blk_drew ?_ | refine blk_alloc ?_ _)); exact BK149.out) hb); have n2_ := Aside0.mk (below_step (by repeat (first | (with_reducible first | exact HB.out | apply below_alloc | apply pw_below_drewN | apply below_drew1 | refine below_set ?_ GE149.out) | exact HB.out)) hb); clear HO147; clear BK149; clear HB; have HO147 := n0_; have BK149 := n1_; have HB := n2_; clear n0_ n1_ n2_; (try clear hb); (try clear hb2); (try clear hk); (try clear hi)) | ((with_reducible refine gate_callee (f := 6) rfl ?_); refine goesL_ (some 8) rfl rfl Tryz.func6 (by kernel_rfl) rfl #[.string (⟨#[97, 64, 98, 46, 99]⟩ : ByteArray), .agg #[.bool t150, .bool t151, .bool t152, .bool t153, .bool t154, .bool t155, .int .i64 t156], .int .i64 100, .bool true, .string (⟨#[120]⟩ : ByteArray)] rfl (by (try simp only [List.map_toArray, List.map_cons, List.map_nil]); first | done | rfl | (simp only [List.length_drop, List.length_take]; rfl)) ?_; (with_reducible refine (cmd_Mail.calls (⟨#[97, 64, 98, 46, 99]⟩ : ByteArray) t150 t151 t152 t153 t154 t155 t156 100 true (⟨#[120]⟩ : ByteArray) t157 t158 t159 t162 _ A8.out (GL.of_below hG (by repeat (first | (with_reducible first | exact HB.out | exact Below.refl _ _ | apply below_alloc | apply pw_below_drewN | apply below_drew1) | exact HB.out | exact hb | refine below_set ?_ (by assumption))))).mono ?_); rintro e w33 ⟨v160, rfl, ho0, hb⟩; refine ⟨_, rfl, ?_⟩; have n0_ := Aside0.mk (Kd.R_elder' (by (with_reducible repeat (first | apply Kd.R_alloc | apply Kd.R_drewN | apply Kd.R_drew)); exact HO147.out) (Kd.R_base ho0) hb); have n1_ := Aside0.mk (Kd.R_lower (Kd.R_new' ho0 (Kd.R_lt (by (with_reducible repeat (first | apply Kd.R_alloc | apply Kd.R_drewN | apply Kd.R_drew)); exact HO147.out))) (below_size (by repeat (first | (with_reducible first | exact HB.out | apply below_alloc | apply pw_below_drewN | apply below_drew1 | refine below_set ?_ GE149.out) | exact HB.out)))); have n2_ := Aside0.mk (blk_below (g := gb149) (o := .cells #[.int .u8 t143, .string t144, .slice Ao6 t145.length co6] 27 (0, 0)) (by (with_reducible repeat (first | refine blk_drewN ?_ _ | refine blk_drew ?_ | refine blk_alloc ?_ _)); exact BK149.out) hb); have n3_ := Aside0.mk (below_step (by repeat (first | (with_reducible first | exact HB.out | apply below_alloc | apply pw_below_drewN | apply below_drew1 | refine below_set ?_ GE149.out) | exact HB.out)) hb); clear HO147; clear BK149; clear HB; have HO147 := n0_; have HO161 := n1_; have BK149 := n2_; have HB := n3_; clear n0_ n1_ n2_ n3_; (try clear hb); (try clear hb2); (try clear hk); (try clear hi); (try clear ho0); obtain ⟨Ao34, co34, eo34⟩ := Kd.R_slice HO161.out; subst eo34) | ((with_reducible refine gate_callee (f := 23) rfl ?_); refine goesL_ (some 11) rfl rfl Tryz.func23 (by kernel_rfl) rfl #[.agg #[.int .u8 t157, .string t158, .slice Ao34 t159.length co34], .int .i64 t162] rfl (by (try simp only [List.map_toArray, List.map_cons, List.map_nil]); first | done | rfl | (simp only [List.length_drop, List.length_take]; rfl)) ?_; (with_reducible refine (mailroomlaw07_shown.calls t157 t158 _ _ t159 t162 t163 _ ?side1 ?side2 A9.out).mono ?_); (case side1 => repeat (first | exact (Kd.R_reads' HO161.out).2.2 | (with_reducible refine Kd.C_alloc ?_ _) | (with_reducible refine Kd.C_drewN ?_ _) | (with_reducible refine Kd.C_drew ?_))); (case side2 => exact (Kd.R_reads' HO161.out).2.1); rintro e w35 ⟨rfl, hb⟩; refine ⟨_, rfl, ?_⟩; have n0_ := Aside0.mk (Kd.R_below (by (with_reducible repeat (first | apply Kd.R_alloc | apply Kd.R_drewN | apply Kd.R_drew)); exact HO147.out) hb); have n1_ := Aside0.mk (Kd.R_below (by (with_reducible repeat (first | apply Kd.R_alloc | apply Kd.R_drewN | apply Kd.R_drew)); exact HO161.out) hb); have n2_ := Aside0.mk (blk_below (g := gb149) (o := .cells #[.int .u8 t143, .string t144, .slice Ao6 t145.length co6] 27 (0, 0)) (by (with_reducible repeat (first | refine blk_drewN ?_ _ | refine blk_drew ?_ | refine blk_alloc ?_ _)); exact BK149.out) hb); have n3_ := Aside0.mk (below_step (by repeat (first | (with_reducible first | exact HB.out | apply below_alloc | apply pw_below_drewN | apply below_drew1 | refine below_set ?_ GE149.out) | exact HB.out)) hb); clear HO147; clear HO161; clear BK149; clear HB; have HO147 := n0_; have HO161 := n1_; have BK149 := n2_; have HB := n3_; clear n0_ n1_ n2_ n3_; (try clear hb); (try clear hb2); (try clear hk); (try clear hi)) | (go_at_call 6; (with_reducible refine (cmd_Mail.calls (⟨#[97, 64, 98, 46, 99]⟩ : ByteArray) false false false false false false 0 100 true (⟨#[120]⟩ : ByteArray) t164 t165 t166 t169 _ A11.out (GL.of_below hG (by repeat (first | (with_reducible first | exact HB.out | exact Below.refl _ _ | apply below_alloc | apply pw_below_drewN | apply below_drew1) | exact HB.out | exact hb | refine below_set ?_ (by assumption))))).mono ?_); rintro e w36 ⟨v167, rfl, ho0, hb⟩; have n0_ := Aside0.mk (Kd.R_elder' (by (with_reducible repeat (first | apply Kd.R_alloc | apply Kd.R_drewN | apply Kd.R_drew)); exact HO147.out) (Kd.R_base ho0) hb); have n1_ := Aside0.mk (Kd.R_elder' (by (with_reducible repeat (first | apply Kd.R_alloc | apply Kd.R_drewN | apply Kd.R_drew)); exact HO161.out) (Kd.R_base ho0) hb); have n2_ := Aside0.mk (Kd.R_lower (Kd.R_new' (Kd.R_new' ho0 (Kd.R_lt (by (with_reducible repeat (first | apply Kd.R_alloc | apply Kd.R_drewN | apply Kd.R_drew)); exact HO147.out))) (Kd.R_lt (by (with_reducible repeat (first | apply Kd.R_alloc | apply Kd.R_drewN | apply Kd.R_drew)); exact HO161.out))) (below_size (by repeat (first | (with_reducible first | exact HB.out | apply below_alloc | apply pw_below_drewN | apply below_drew1 | refine below_set ?_ GE149.out) | exact HB.out)))); have n3_ := Aside0.mk (blk_below (g := gb149) (o := .cells #[.int .u8 t143, .string t144, .slice Ao6 t145.length co6] 27 (0, 0)) (by (with_reducible repeat (first | refine blk_drewN ?_ _ | refine blk_drew ?_ | refine blk_alloc ?_ _)); exact BK149.out) hb); have n4_ := Aside0.mk (below_step (by repeat (first | (with_reducible first | exact HB.out | apply below_alloc | apply pw_below_drewN | apply below_drew1 | refine below_set ?_ GE149.out) | exact HB.out)) hb); clear HO147; clear HO161; clear BK149; clear HB; have HO147 := n0_; have HO161 := n1_; have HO168 := n2_; have BK149 := n3_; have HB := n4_; clear n0_ n1_ n2_ n3_ n4_; (try clear hb); (try clear hb2); (try clear hk); (try clear hi); (try clear ho0); obtain ⟨Ao37, co37, eo37⟩ := Kd.R_slice HO168.out; subst eo37) | (go_at_call 23; (with_reducible refine (mailroomlaw07_shown.calls t164 t165 _ _ t166 t169 t170 _ ?side1 ?side2 A12.out).mono ?_); (case side1 => repeat (first | exact (Kd.R_reads' HO168.out).2.2 | (with_reducible refine Kd.C_alloc ?_ _) | (with_reducible refine Kd.C_drewN ?_ _) | (with_reducible refine Kd.C_drew ?_))); (case side2 => exact (Kd.R_reads' HO168.out).2.1); rintro e w38 ⟨rfl, hb⟩; have n0_ := Aside0.mk (Kd.R_below (by (with_reducible repeat (first | apply Kd.R_alloc | apply Kd.R_drewN | apply Kd.R_drew)); exact HO147.out) hb); have n1_ := Aside0.mk (Kd.R_below (by (with_reducible repeat (first | apply Kd.R_alloc | apply Kd.R_drewN | apply Kd.R_drew)); exact HO161.out) hb); have n2_ := Aside0.mk (Kd.R_below (by (with_reducible repeat (first | apply Kd.R_alloc | apply Kd.R_drewN | apply Kd.R_drew)); exact HO168.out) hb); have n3_ := Aside0.mk (blk_below (g := gb149) (o := .cells #[.int .u8 t143, .string t144, .slice Ao6 t145.length co6] 27 (0, 0)) (by (with_reducible repeat (first | refine blk_drewN ?_ _ | refine blk_drew ?_ | refine blk_alloc ?_ _)); exact BK149.out) hb); have n4_ := Aside0.mk (below_step (by repeat (first | (with_reducible first | exact HB.out | apply below_alloc | apply pw_below_drewN | apply below_drew1 | refine below_set ?_ GE149.out) | exact HB.out)) hb); clear HO147; clear HO161; clear HO168; clear BK149; clear HB; have HO147 := n0_; have HO161 := n1_; have HO168 := n2_; have BK149 := n3_; have HB := n4_; clear n0_ n1_ n2_ n3_ n4_; (try clear hb); (try clear hb2); (try clear hk); (try clear hi)) | (go_at_call 6; (with_reducible refine (cmd_Mail.calls (⟨#[]⟩ : ByteArray) false false false false false false 0 0 false (⟨#[]⟩ : ByteArray) t171 t172 t173 t176 _ A14.out (GL.of_below hG (by repeat (first | (with_reducible first | exact HB.out | exact Below.refl _ _ | apply below_alloc | apply pw_below_drewN | apply below_drew1) | exact HB.out | exact hb | refine below_set ?_ (by assumption))))).mono ?_); rintro e w39 ⟨v174, rfl, ho0, hb⟩; have n0_ := Aside0.mk (Kd.R_elder' (by (with_reducible repeat (first | apply Kd.R_alloc | apply Kd.R_drewN | apply Kd.R_drew)); exact HO147.out) (Kd.R_base ho0) hb); have n1_ := Aside0.mk (Kd.R_elder' (by (with_reducible repeat (first | apply Kd.R_alloc | apply Kd.R_drewN | apply Kd.R_drew)); exact HO161.out) (Kd.R_base ho0) hb); have n2_ := Aside0.mk (Kd.R_elder' (by (with_reducible repeat (first | apply Kd.R_alloc | apply Kd.R_drewN | apply Kd.R_drew)); exact HO168.out) (Kd.R_base ho0) hb); have n3_ := Aside0.mk (Kd.R_lower (Kd.R_new' (Kd.R_new' (Kd.R_new' ho0 (Kd.R_lt (by (with_reducible repeat (first | apply Kd.R_alloc | apply Kd.R_drewN | apply Kd.R_drew)); exact HO147.out))) (Kd.R_lt (by (with_reducible repeat (first | apply Kd.R_alloc | apply Kd.R_drewN | apply Kd.R_drew)); exact HO161.out))) (Kd.R_lt (by (with_reducible repeat (first | apply Kd.R_alloc | apply Kd.R_drewN | apply Kd.R_drew)); exact HO168.out))) (below_size (by repeat (first | (with_reducible first | exact HB.out | apply below_alloc | apply pw_below_drewN | apply below_drew1 | refine below_set ?_ GE149.out) | exact HB.out)))); have n4_ := Aside0.mk (blk_below (g := gb149) (o := .cells #[.int .u8 t143, .string t144, .slice Ao6 t145.length co6] 27 (0, 0)) (by (with_reducible repeat (first | refine blk_drewN ?_ _ | refine blk_drew ?_ | refine blk_alloc ?_ _)); exact BK149.out) hb); have n5_ := Aside0.mk (below_step (by repeat (first | (with_reducible first | exact HB.out | apply below_alloc | apply pw_below_drewN | apply below_drew1 | refine below_set ?_ GE149.out) | exact HB.out)) hb); clear HO147; clear HO161; clear HO168; clear BK149; clear HB; have HO147 := n0_; have HO161 := n1_; have HO168 := n2_; have HO175 := n3_; have BK149 := n4_; have HB := n5_; clear n0_ n1_ n2_ n3_ n4_ n5_; (try clear hb); (try clear hb2); (try clear hk); (try clear hi); (try clear ho0); obtain ⟨Ao40, co40, eo40⟩ := Kd.R_slice HO175.out; subst eo40) | (go_at_call 23; (with_reducible refine (mailroomlaw07_shown.calls t171 t172 _ _ t173 t176 t177 _ ?side1 ?side2 A15.out).mono ?_); (case side1 => repeat (first | exact (Kd.R_reads' HO175.out).2.2 | (with_reducible refine Kd.C_alloc ?_ _) | (with_reducible refine Kd.C_drewN ?_ _) | (with_reducible refine Kd.C_drew ?_))); (case side2 => exact (Kd.R_reads' HO175.out).2.1); rintro e w41 ⟨rfl, hb⟩; have n0_ := Aside0.mk (Kd.R_below (by (with_reducible repeat (first | apply Kd.R_alloc | apply Kd.R_drewN | apply Kd.R_drew)); exact HO147.out) hb); have n1_ := Aside0.mk (Kd.R_below (by (with_reducible repeat (first | apply Kd.R_alloc | apply Kd.R_drewN | apply Kd.R_drew)); exact HO161.out) hb); have n2_ := Aside0.mk (Kd.R_below (by (with_reducible repeat (first | apply Kd.R_alloc | apply Kd.R_drewN | apply Kd.R_drew)); exact HO168.out) hb); have n3_ := Aside0.mk (Kd.R_below (by (with_reducible repeat (first | apply Kd.R_alloc | apply Kd.R_drewN | apply Kd.R_drew)); exact HO175.out) hb); have n4_ := Aside0.mk (blk_below (g := gb149) (o := .cells #[.int .u8 t143, .string t144, .slice Ao6 t145.length co6] 27 (0, 0)) (by (with_reducible repeat (first | refine blk_drewN ?_ _ | refine blk_drew ?_ | refine blk_alloc ?_ _)); exact BK149.out) hb); have n5_ := Aside0.mk (below_step (by repeat (first | (with_reducible first | exact HB.out | apply below_alloc | apply pw_below_drewN | apply below_drew1 | refine below_set ?_ GE149.out) | exact HB.out)) hb); clear HO147; clear HO161; clear HO168; clear HO175; clear BK149; clear HB; have HO147 := n0_; have HO161 := n1_; have HO168 := n2_; have HO175 := n3_; have BK149 := n4_; have HB := n5_; clear n0_ n1_ n2_ n3_ n4_ n5_; (try clear hb); (try clear hb2); (try clear hk); (try clear hi)))
     go_meet
     case rel => exact ⟨_, (true), (by first | rfl | (simp; done) | (simp [*]; done)), H', ⟨by first | omega | exact Nat.le_refl _⟩, ⟨by (with_reducible repeat (first | apply Kd.R_alloc | apply Kd.R_drewN | apply Kd.R_drew)); exact Kd.R_mono HO147.out (fun _ hk => trivial)⟩, ⟨by (with_reducible repeat (first | refine blk_drewN ?_ _ | refine blk_drew ?_ | refine blk_alloc ?_ _)); exact BK149.out⟩, ⟨by repeat (first | (with_reducible first | exact HB.out | apply below_alloc | apply pw_below_drewN | apply below_drew1 | refine below_set ?_ GE149.out) | exact HB.out)⟩⟩
   ·rw [if_neg c13] at H
    have c13b0 : (t170.toList == ([77, 65, 73, 76, 32, 70, 82, 79, 77, 58, 60, 97, 64, 98, 46, 99, 62] : List UInt8)) = false := beq_eq_false_iff_ne.mpr c13
    have c13b1 : (t170.toList != ([77, 65, 73, 76, 32, 70, 82, 79, 77, 58, 60, 97, 64, 98, 46, 99, 62] : List UInt8)) = true := bne_iff_ne.mpr c13
    have H' := Aside0.mk H
    clear H
    go_wp2_with (first | ((with_reducible refine gate_callee (f := 24) rfl ?_); refine goesL_ (some 7) rfl rfl Tryz.func24 (by kernel_rfl) rfl #[] rfl (by (try simp only [List.map_toArray, List.map_cons, List.map_nil]); first | done | rfl | (simp only [List.length_drop, List.length_take]; rfl)) ?_; (with_reducible refine (mailroomlaw07_all.calls  t150 t151 t152 t153 t154 t155 t156 _ A7.out).mono ?_); rintro e w42 ⟨rfl, hb⟩; refine ⟨_, rfl, ?_⟩; have n0_ := Aside0.mk (Kd.R_below (by (with_reducible repeat (first | apply Kd.R_alloc | apply Kd.R_drewN | apply Kd.R_drew)); exact (Kd.R_mono (Kd.R_far (p := ⟨gb149, 2, none⟩) (Kd.R_far (p := ⟨gb149, 1, none⟩) (Kd.R_far (p := ⟨gb149, 0, none⟩) (Kd.R_types HO147.out BK149.out (by decide)) (fun _ hk => hk.2) (.int .u8 t143)) (fun _ hk => hk.2) (.string t144)) (fun _ hk => hk.2) (.slice Ao6 t145.length co6)) (fun _ h_ => h_.1))) hb); have n1_ := Aside0.mk (blk_below (g := gb149) (o := .cells #[.int .u8 t143, .string t144, .slice Ao6 t145.length co6] 27 (0, 0)) (by (with_reducible repeat (first | refine blk_drewN ?_ _ | refine blk_drew ?_ | refine blk_alloc ?_ _)); refine blk_put (cs := #[.int .u8 t143, .string t144, .slice none 0 0]) ?_ 2 _ rfl; (with_reducible repeat (first | refine blk_drewN ?_ _ | refine blk_drew ?_ | refine blk_alloc ?_ _)); refine blk_put (cs := #[.int .u8 t143, .string (⟨#[]⟩ : ByteArray), .slice none 0 0]) ?_ 1 _ rfl; (with_reducible repeat (first | refine blk_drewN ?_ _ | refine blk_drew ?_ | refine blk_alloc ?_ _)); refine blk_put (cs := #[.int .u8 0, .string (⟨#[]⟩ : ByteArray), .slice none 0 0]) ?_ 0 _ rfl; (with_reducible repeat (first | refine blk_drewN ?_ _ | refine blk_drew ?_ | refine blk_alloc ?_ _)); exact BK149.out) hb); have n2_ := Aside0.mk (below_step (by repeat (first | (with_reducible first | exact HB.out | apply below_alloc | apply pw_below_drewN | apply below_drew1 | refine below_set ?_ GE149.out) | exact HB.out)) hb); clear HO147; clear BK149; clear HB; have HO147 := n0_; have BK149 := n1_; have HB := n2_; clear n0_ n1_ n2_; (try clear hb); (try clear hb2); (try clear hk); (try clear hi)) | ((with_reducible refine gate_callee (f := 6) rfl ?_); refine goesL_ (some 8) rfl rfl Tryz.func6 (by kernel_rfl) rfl #[.string (⟨#[97, 64, 98, 46, 99]⟩ : ByteArray), .agg #[.bool t150, .bool t151, .bool t152, .bool t153, .bool t154, .bool t155, .int .i64 t156], .int .i64 100, .bool true, .string (⟨#[120]⟩ : ByteArray)] rfl (by (try simp only [List.map_toArray, List.map_cons, List.map_nil]); first | done | rfl | (simp only [List.length_drop, List.length_take]; rfl)) ?_; (with_reducible refine (cmd_Mail.calls (⟨#[97, 64, 98, 46, 99]⟩ : ByteArray) t150 t151 t152 t153 t154 t155 t156 100 true (⟨#[120]⟩ : ByteArray) t157 t158 t159 t162 _ A8.out (GL.of_below hG (by repeat (first | (with_reducible first | exact HB.out | exact Below.refl _ _ | apply below_alloc | apply pw_below_drewN | apply below_drew1) | exact HB.out | exact hb | refine below_set ?_ (by assumption))))).mono ?_); rintro e w43 ⟨v160, rfl, ho0, hb⟩; refine ⟨_, rfl, ?_⟩; have n0_ := Aside0.mk (Kd.R_elder' (by (with_reducible repeat (first | apply Kd.R_alloc | apply Kd.R_drewN | apply Kd.R_drew)); exact HO147.out) (Kd.R_base ho0) hb); have n1_ := Aside0.mk (Kd.R_lower (Kd.R_new' ho0 (Kd.R_lt (by (with_reducible repeat (first | apply Kd.R_alloc | apply Kd.R_drewN | apply Kd.R_drew)); exact HO147.out))) (below_size (by repeat (first | (with_reducible first | exact HB.out | apply below_alloc | apply pw_below_drewN | apply below_drew1 | refine below_set ?_ GE149.out) | exact HB.out)))); have n2_ := Aside0.mk (blk_below (g := gb149) (o := .cells #[.int .u8 t143, .string t144, .slice Ao6 t145.length co6] 27 (0, 0)) (by (with_reducible repeat (first | refine blk_drewN ?_ _ | refine blk_drew ?_ | refine blk_alloc ?_ _)); exact BK149.out) hb); have n3_ := Aside0.mk (below_step (by repeat (first | (with_reducible first | exact HB.out | apply below_alloc | apply pw_below_drewN | apply below_drew1 | refine below_set ?_ GE149.out) | exact HB.out)) hb); clear HO147; clear BK149; clear HB; have HO147 := n0_; have HO161 := n1_; have BK149 := n2_; have HB := n3_; clear n0_ n1_ n2_ n3_; (try clear hb); (try clear hb2); (try clear hk); (try clear hi); (try clear ho0); obtain ⟨Ao44, co44, eo44⟩ := Kd.R_slice HO161.out; subst eo44) | ((with_reducible refine gate_callee (f := 23) rfl ?_); refine goesL_ (some 11) rfl rfl Tryz.func23 (by kernel_rfl) rfl #[.agg #[.int .u8 t157, .string t158, .slice Ao44 t159.length co44], .int .i64 t162] rfl (by (try simp only [List.map_toArray, List.map_cons, List.map_nil]); first | done | rfl | (simp only [List.length_drop, List.length_take]; rfl)) ?_; (with_reducible refine (mailroomlaw07_shown.calls t157 t158 _ _ t159 t162 t163 _ ?side1 ?side2 A9.out).mono ?_); (case side1 => repeat (first | exact (Kd.R_reads' HO161.out).2.2 | (with_reducible refine Kd.C_alloc ?_ _) | (with_reducible refine Kd.C_drewN ?_ _) | (with_reducible refine Kd.C_drew ?_))); (case side2 => exact (Kd.R_reads' HO161.out).2.1); rintro e w45 ⟨rfl, hb⟩; refine ⟨_, rfl, ?_⟩; have n0_ := Aside0.mk (Kd.R_below (by (with_reducible repeat (first | apply Kd.R_alloc | apply Kd.R_drewN | apply Kd.R_drew)); exact HO147.out) hb); have n1_ := Aside0.mk (Kd.R_below (by (with_reducible repeat (first | apply Kd.R_alloc | apply Kd.R_drewN | apply Kd.R_drew)); exact HO161.out) hb); have n2_ := Aside0.mk (blk_below (g := gb149) (o := .cells #[.int .u8 t143, .string t144, .slice Ao6 t145.length co6] 27 (0, 0)) (by (with_reducible repeat (first | refine blk_drewN ?_ _ | refine blk_drew ?_ | refine blk_alloc ?_ _)); exact BK149.out) hb); have n3_ := Aside0.mk (below_step (by repeat (first | (with_reducible first | exact HB.out | apply below_alloc | apply pw_below_drewN | apply below_drew1 | refine below_set ?_ GE149.out) | exact HB.out)) hb); clear HO147; clear HO161; clear BK149; clear HB; have HO147 := n0_; have HO161 := n1_; have BK149 := n2_; have HB := n3_; clear n0_ n1_ n2_ n3_; (try clear hb); (try clear hb2); (try clear hk); (try clear hi)) | (go_at_call 6; (with_reducible refine (cmd_Mail.calls (⟨#[97, 64, 98, 46, 99]⟩ : ByteArray) false false false false false false 0 100 true (⟨#[120]⟩ : ByteArray) t164 t165 t166 t169 _ A11.out (GL.of_below hG (by repeat (first | (with_reducible first | exact HB.out | exact Below.refl _ _ | apply below_alloc | apply pw_below_drewN | apply below_drew1) | exact HB.out | exact hb | refine below_set ?_ (by assumption))))).mono ?_); rintro e w46 ⟨v167, rfl, ho0, hb⟩; have n0_ := Aside0.mk (Kd.R_elder' (by (with_reducible repeat (first | apply Kd.R_alloc | apply Kd.R_drewN | apply Kd.R_drew)); exact HO147.out) (Kd.R_base ho0) hb); have n1_ := Aside0.mk (Kd.R_elder' (by (with_reducible repeat (first | apply Kd.R_alloc | apply Kd.R_drewN | apply Kd.R_drew)); exact HO161.out) (Kd.R_base ho0) hb); have n2_ := Aside0.mk (Kd.R_lower (Kd.R_new' (Kd.R_new' ho0 (Kd.R_lt (by (with_reducible repeat (first | apply Kd.R_alloc | apply Kd.R_drewN | apply Kd.R_drew)); exact HO147.out))) (Kd.R_lt (by (with_reducible repeat (first | apply Kd.R_alloc | apply Kd.R_drewN | apply Kd.R_drew)); exact HO161.out))) (below_size (by repeat (first | (with_reducible first | exact HB.out | apply below_alloc | apply pw_below_drewN | apply below_drew1 | refine below_set ?_ GE149.out) | exact HB.out)))); have n3_ := Aside0.mk (blk_below (g := gb149) (o := .cells #[.int .u8 t143, .string t144, .slice Ao6 t145.length co6] 27 (0, 0)) (by (with_reducible repeat (first | refine blk_drewN ?_ _ | refine blk_drew ?_ | refine blk_alloc ?_ _)); exact BK149.out) hb); have n4_ := Aside0.mk (below_step (by repeat (first | (with_reducible first | exact HB.out | apply below_alloc | apply pw_below_drewN | apply below_drew1 | refine below_set ?_ GE149.out) | exact HB.out)) hb); clear HO147; clear HO161; clear BK149; clear HB; have HO147 := n0_; have HO161 := n1_; have HO168 := n2_; have BK149 := n3_; have HB := n4_; clear n0_ n1_ n2_ n3_ n4_; (try clear hb); (try clear hb2); (try clear hk); (try clear hi); (try clear ho0); obtain ⟨Ao47, co47, eo47⟩ := Kd.R_slice HO168.out; subst eo47) | (go_at_call 23; (with_reducible refine (mailroomlaw07_shown.calls t164 t165 _ _ t166 t169 t170 _ ?side1 ?side2 A12.out).mono ?_); (case side1 => repeat (first | exact (Kd.R_reads' HO168.out).2.2 | (with_reducible refine Kd.C_alloc ?_ _) | (with_reducible refine Kd.C_drewN ?_ _) | (with_reducible refine Kd.C_drew ?_))); (case side2 => exact (Kd.R_reads' HO168.out).2.1); rintro e w48 ⟨rfl, hb⟩; have n0_ := Aside0.mk (Kd.R_below (by (with_reducible repeat (first | apply Kd.R_alloc | apply Kd.R_drewN | apply Kd.R_drew)); exact HO147.out) hb); have n1_ := Aside0.mk (Kd.R_below (by (with_reducible repeat (first | apply Kd.R_alloc | apply Kd.R_drewN | apply Kd.R_drew)); exact HO161.out) hb); have n2_ := Aside0.mk (Kd.R_below (by (with_reducible repeat (first | apply Kd.R_alloc | apply Kd.R_drewN | apply Kd.R_drew)); exact HO168.out) hb); have n3_ := Aside0.mk (blk_below (g := gb149) (o := .cells #[.int .u8 t143, .string t144, .slice Ao6 t145.length co6] 27 (0, 0)) (by (with_reducible repeat (first | refine blk_drewN ?_ _ | refine blk_drew ?_ | refine blk_alloc ?_ _)); exact BK149.out) hb); have n4_ := Aside0.mk (below_step (by repeat (first | (with_reducible first | exact HB.out | apply below_alloc | apply pw_below_drewN | apply below_drew1 | refine below_set ?_ GE149.out) | exact HB.out)) hb); clear HO147; clear HO161; clear HO168; clear BK149; clear HB; have HO147 := n0_; have HO161 := n1_; have HO168 := n2_; have BK149 := n3_; have HB := n4_; clear n0_ n1_ n2_ n3_ n4_; (try clear hb); (try clear hb2); (try clear hk); (try clear hi)))
    go_meet
    case rel => exact ⟨_, (true), (by first | rfl | (simp; done) | (simp [*]; done)), H', ⟨by first | omega | exact Nat.le_refl _⟩, ⟨by (with_reducible repeat (first | apply Kd.R_alloc | apply Kd.R_drewN | apply Kd.R_drew)); exact Kd.R_mono HO147.out (fun _ hk => trivial)⟩, ⟨by (with_reducible repeat (first | refine blk_drewN ?_ _ | refine blk_drew ?_ | refine blk_alloc ?_ _)); exact BK149.out⟩, ⟨by repeat (first | (with_reducible first | exact HB.out | apply below_alloc | apply pw_below_drewN | apply below_drew1 | refine below_set ?_ GE149.out) | exact HB.out)⟩⟩
  ·rw [if_neg c10] at H
   have c10b0 : (t163.toList == ([77, 65, 73, 76, 32, 70, 82, 79, 77, 58, 60, 97, 64, 98, 46, 99, 62, 32, 83, 73, 90, 69, 61, 49, 48, 48, 32, 82, 69, 81, 85, 73, 82, 69, 84, 76, 83, 32, 69, 78, 86, 73, 68, 61, 120] : List UInt8)) = false := beq_eq_false_iff_ne.mpr c10
   have c10b1 : (t163.toList != ([77, 65, 73, 76, 32, 70, 82, 79, 77, 58, 60, 97, 64, 98, 46, 99, 62, 32, 83, 73, 90, 69, 61, 49, 48, 48, 32, 82, 69, 81, 85, 73, 82, 69, 84, 76, 83, 32, 69, 78, 86, 73, 68, 61, 120] : List UInt8)) = true := bne_iff_ne.mpr c10
   (first | rw [c10b0] | (simp only [i64_w, i32_w]; rw [c10b0]) | skip)
   have H' := Aside0.mk H
   clear H
   go_wp2_with (first | ((with_reducible refine gate_callee (f := 24) rfl ?_); refine goesL_ (some 7) rfl rfl Tryz.func24 (by kernel_rfl) rfl #[] rfl (by (try simp only [List.map_toArray, List.map_cons, List.map_nil]); first | done | rfl | (simp only [List.length_drop, List.length_take]; rfl)) ?_; (with_reducible refine (mailroomlaw07_all.calls  t150 t151 t152 t153 t154 t155 t156 _ A7.out).mono ?_); rintro e w49 ⟨rfl, hb⟩; refine ⟨_, rfl, ?_⟩; have n0_ := Aside0.mk (Kd.R_below (by (with_reducible repeat (first | apply Kd.R_alloc | apply Kd.R_drewN | apply Kd.R_drew)); exact (Kd.R_mono (Kd.R_far (p := ⟨gb149, 2, none⟩) (Kd.R_far (p := ⟨gb149, 1, none⟩) (Kd.R_far (p := ⟨gb149, 0, none⟩) (Kd.R_types HO147.out BK149.out (by decide)) (fun _ hk => hk.2) (.int .u8 t143)) (fun _ hk => hk.2) (.string t144)) (fun _ hk => hk.2) (.slice Ao6 t145.length co6)) (fun _ h_ => h_.1))) hb); have n1_ := Aside0.mk (blk_below (g := gb149) (o := .cells #[.int .u8 t143, .string t144, .slice Ao6 t145.length co6] 27 (0, 0)) (by (with_reducible repeat (first | refine blk_drewN ?_ _ | refine blk_drew ?_ | refine blk_alloc ?_ _)); refine blk_put (cs := #[.int .u8 t143, .string t144, .slice none 0 0]) ?_ 2 _ rfl; (with_reducible repeat (first | refine blk_drewN ?_ _ | refine blk_drew ?_ | refine blk_alloc ?_ _)); refine blk_put (cs := #[.int .u8 t143, .string (⟨#[]⟩ : ByteArray), .slice none 0 0]) ?_ 1 _ rfl; (with_reducible repeat (first | refine blk_drewN ?_ _ | refine blk_drew ?_ | refine blk_alloc ?_ _)); refine blk_put (cs := #[.int .u8 0, .string (⟨#[]⟩ : ByteArray), .slice none 0 0]) ?_ 0 _ rfl; (with_reducible repeat (first | refine blk_drewN ?_ _ | refine blk_drew ?_ | refine blk_alloc ?_ _)); exact BK149.out) hb); have n2_ := Aside0.mk (below_step (by repeat (first | (with_reducible first | exact HB.out | apply below_alloc | apply pw_below_drewN | apply below_drew1 | refine below_set ?_ GE149.out) | exact HB.out)) hb); clear HO147; clear BK149; clear HB; have HO147 := n0_; have BK149 := n1_; have HB := n2_; clear n0_ n1_ n2_; (try clear hb); (try clear hb2); (try clear hk); (try clear hi)) | ((with_reducible refine gate_callee (f := 6) rfl ?_); refine goesL_ (some 8) rfl rfl Tryz.func6 (by kernel_rfl) rfl #[.string (⟨#[97, 64, 98, 46, 99]⟩ : ByteArray), .agg #[.bool t150, .bool t151, .bool t152, .bool t153, .bool t154, .bool t155, .int .i64 t156], .int .i64 100, .bool true, .string (⟨#[120]⟩ : ByteArray)] rfl (by (try simp only [List.map_toArray, List.map_cons, List.map_nil]); first | done | rfl | (simp only [List.length_drop, List.length_take]; rfl)) ?_; (with_reducible refine (cmd_Mail.calls (⟨#[97, 64, 98, 46, 99]⟩ : ByteArray) t150 t151 t152 t153 t154 t155 t156 100 true (⟨#[120]⟩ : ByteArray) t157 t158 t159 t162 _ A8.out (GL.of_below hG (by repeat (first | (with_reducible first | exact HB.out | exact Below.refl _ _ | apply below_alloc | apply pw_below_drewN | apply below_drew1) | exact HB.out | exact hb | refine below_set ?_ (by assumption))))).mono ?_); rintro e w50 ⟨v160, rfl, ho0, hb⟩; refine ⟨_, rfl, ?_⟩; have n0_ := Aside0.mk (Kd.R_elder' (by (with_reducible repeat (first | apply Kd.R_alloc | apply Kd.R_drewN | apply Kd.R_drew)); exact HO147.out) (Kd.R_base ho0) hb); have n1_ := Aside0.mk (Kd.R_lower (Kd.R_new' ho0 (Kd.R_lt (by (with_reducible repeat (first | apply Kd.R_alloc | apply Kd.R_drewN | apply Kd.R_drew)); exact HO147.out))) (below_size (by repeat (first | (with_reducible first | exact HB.out | apply below_alloc | apply pw_below_drewN | apply below_drew1 | refine below_set ?_ GE149.out) | exact HB.out)))); have n2_ := Aside0.mk (blk_below (g := gb149) (o := .cells #[.int .u8 t143, .string t144, .slice Ao6 t145.length co6] 27 (0, 0)) (by (with_reducible repeat (first | refine blk_drewN ?_ _ | refine blk_drew ?_ | refine blk_alloc ?_ _)); exact BK149.out) hb); have n3_ := Aside0.mk (below_step (by repeat (first | (with_reducible first | exact HB.out | apply below_alloc | apply pw_below_drewN | apply below_drew1 | refine below_set ?_ GE149.out) | exact HB.out)) hb); clear HO147; clear BK149; clear HB; have HO147 := n0_; have HO161 := n1_; have BK149 := n2_; have HB := n3_; clear n0_ n1_ n2_ n3_; (try clear hb); (try clear hb2); (try clear hk); (try clear hi); (try clear ho0); obtain ⟨Ao51, co51, eo51⟩ := Kd.R_slice HO161.out; subst eo51) | ((with_reducible refine gate_callee (f := 23) rfl ?_); refine goesL_ (some 11) rfl rfl Tryz.func23 (by kernel_rfl) rfl #[.agg #[.int .u8 t157, .string t158, .slice Ao51 t159.length co51], .int .i64 t162] rfl (by (try simp only [List.map_toArray, List.map_cons, List.map_nil]); first | done | rfl | (simp only [List.length_drop, List.length_take]; rfl)) ?_; (with_reducible refine (mailroomlaw07_shown.calls t157 t158 _ _ t159 t162 t163 _ ?side1 ?side2 A9.out).mono ?_); (case side1 => repeat (first | exact (Kd.R_reads' HO161.out).2.2 | (with_reducible refine Kd.C_alloc ?_ _) | (with_reducible refine Kd.C_drewN ?_ _) | (with_reducible refine Kd.C_drew ?_))); (case side2 => exact (Kd.R_reads' HO161.out).2.1); rintro e w52 ⟨rfl, hb⟩; refine ⟨_, rfl, ?_⟩; have n0_ := Aside0.mk (Kd.R_below (by (with_reducible repeat (first | apply Kd.R_alloc | apply Kd.R_drewN | apply Kd.R_drew)); exact HO147.out) hb); have n1_ := Aside0.mk (Kd.R_below (by (with_reducible repeat (first | apply Kd.R_alloc | apply Kd.R_drewN | apply Kd.R_drew)); exact HO161.out) hb); have n2_ := Aside0.mk (blk_below (g := gb149) (o := .cells #[.int .u8 t143, .string t144, .slice Ao6 t145.length co6] 27 (0, 0)) (by (with_reducible repeat (first | refine blk_drewN ?_ _ | refine blk_drew ?_ | refine blk_alloc ?_ _)); exact BK149.out) hb); have n3_ := Aside0.mk (below_step (by repeat (first | (with_reducible first | exact HB.out | apply below_alloc | apply pw_below_drewN | apply below_drew1 | refine below_set ?_ GE149.out) | exact HB.out)) hb); clear HO147; clear HO161; clear BK149; clear HB; have HO147 := n0_; have HO161 := n1_; have BK149 := n2_; have HB := n3_; clear n0_ n1_ n2_ n3_; (try clear hb); (try clear hb2); (try clear hk); (try clear hi)))
   go_meet
   case rel => exact ⟨_, (true), (by first | rfl | (simp; done) | (simp [*]; done)), H', ⟨by first | omega | exact Nat.le_refl _⟩, ⟨by (with_reducible repeat (first | apply Kd.R_alloc | apply Kd.R_drewN | apply Kd.R_drew)); exact Kd.R_mono HO147.out (fun _ hk => trivial)⟩, ⟨by (with_reducible repeat (first | refine blk_drewN ?_ _ | refine blk_drew ?_ | refine blk_alloc ?_ _)); exact BK149.out⟩, ⟨by repeat (first | (with_reducible first | exact HB.out | apply below_alloc | apply pw_below_drewN | apply below_drew1 | refine below_set ?_ GE149.out) | exact HB.out)⟩⟩
 case rest =>
  clear HC2
  try clear c1
  try clear c2
  try clear p2
  try clear c5
  try clear c6
  try clear c10
  try clear c10b0
  try clear c10b1
  try clear c13
  try clear c13b0
  try clear c13b1
  try clear c16
  try clear c16b0
  try clear c16b1
  try clear c21
  try clear c23
  try clear c24
  try clear hcz5_0
  try clear hcz5_1
  try clear hcz5_2
  try clear hfz5_0
  try clear hfz5_1
  try clear hfz5_2
  obtain ⟨kq, x36_1, rfl, HA, HJ1, HO_150002, BK149, HB⟩ := hcut
  cases kq with
  | zero => exact absurd HA.out (by simp [mailroomlaw07_awake.j0])
  | succ kj1 =>
   have H := HA.out
   clear HA
   simp only [mailroomlaw07_awake.j0] at H
   by_cases c53 : x36_1 = true
   ·subst c53
    have H1 : (some false) = some r := by rw [if_pos rfl] at H; exact H
    clear H
    have H := H1
    clear H1
    obtain rfl := Option.some.inj H
    go_wp2
    go_ret
    exact ⟨by first | rfl | (simp [errW_none, errW_some] <;> rfl) | (simp [*, errW_none, errW_some] <;> rfl), by repeat (first | (with_reducible first | exact HB.out | apply below_alloc | apply pw_below_drewN | apply below_drew1 | refine below_set ?_ GE149.out) | exact HB.out)⟩
   ·replace c53 := Bool.eq_false_iff.mpr c53
    subst c53
    have H1 : (if t148 = 0 then (if t143 = 1 then (if t144.toList = ([109, 120, 46, 101, 120, 97, 109, 112, 108, 101] : List UInt8) then (if (t145.length : Int) = 0 then ((mailroomlaw07_wrong.f (⟨#[77, 65, 73, 76, 32, 70, 82, 79, 77, 58, 32, 60, 97, 64, 98, 46, 99, 62]⟩ : ByteArray)).bind fun t185 => (if t185 = 4 then ((mailroomlaw07_wrong.f (⟨#[68, 65, 84, 65, 32]⟩ : ByteArray)).bind fun t186 => (if t186 = 4 then ((mailroomlaw07_wrong.f (⟨#[82, 67, 80, 84, 32, 84, 79, 58, 60, 62]⟩ : ByteArray)).bind fun t187 => (some (t187 == 4))) else (some false))) else (some false))) else (some false)) else (some false)) else (some false)) else (some false)) = some r := by rw [if_neg (show ¬ (false = true) by decide)] at H; exact H
    clear H
    have H := H1
    clear H1
    by_cases c54 : t148 = 0
    ·rw [if_pos c54] at H
     have c54b0 : (t148 == 0) = true := beq_iff_eq.mpr c54
     have c54b1 : (t148 != 0) = false := bne_eq_false_iff_eq.mpr c54
     clear c54
     by_cases c55 : t143 = 1
     ·rw [if_pos c55] at H
      have c55b0 : (t143 == 1) = true := beq_iff_eq.mpr c55
      have c55b1 : (t143 != 1) = false := bne_eq_false_iff_eq.mpr c55
      clear c55
      by_cases c56 : t144.toList = ([109, 120, 46, 101, 120, 97, 109, 112, 108, 101] : List UInt8)
      ·rw [if_pos c56] at H
       have c56b0 : (t144.toList == ([109, 120, 46, 101, 120, 97, 109, 112, 108, 101] : List UInt8)) = true := beq_iff_eq.mpr c56
       have c56b1 : (t144.toList != ([109, 120, 46, 101, 120, 97, 109, 112, 108, 101] : List UInt8)) = false := bne_eq_false_iff_eq.mpr c56
       clear c56
       by_cases c57 : (t145.length : Int) = 0
       ·rw [if_pos c57] at H
        have c57b0 : ((t145.length : Int) == 0) = true := beq_iff_eq.mpr c57
        have c57b1 : ((t145.length : Int) != 0) = false := bne_eq_false_iff_eq.mpr c57
        clear c57
        replace H := Option.bind_eq_some_iff.mp H
        obtain ⟨t185, A580, H⟩ := H
        replace H : (if t185 = 4 then ((mailroomlaw07_wrong.f (⟨#[68, 65, 84, 65, 32]⟩ : ByteArray)).bind fun t186 => (if t186 = 4 then ((mailroomlaw07_wrong.f (⟨#[82, 67, 80, 84, 32, 84, 79, 58, 60, 62]⟩ : ByteArray)).bind fun t187 => (some (t187 == 4))) else (some false))) else (some false)) = some r := H
        have A58 := Aside0.mk A580
        clear A580
        by_cases c59 : t185 = 4
        ·rw [if_pos c59] at H
         have c59b0 : (t185 == 4) = true := beq_iff_eq.mpr c59
         have c59b1 : (t185 != 4) = false := bne_eq_false_iff_eq.mpr c59
         clear c59
         replace H := Option.bind_eq_some_iff.mp H
         obtain ⟨t186, A600, H⟩ := H
         replace H : (if t186 = 4 then ((mailroomlaw07_wrong.f (⟨#[82, 67, 80, 84, 32, 84, 79, 58, 60, 62]⟩ : ByteArray)).bind fun t187 => (some (t187 == 4))) else (some false)) = some r := H
         have A60 := Aside0.mk A600
         clear A600
         by_cases c61 : t186 = 4
         ·rw [if_pos c61] at H
          have c61b0 : (t186 == 4) = true := beq_iff_eq.mpr c61
          have c61b1 : (t186 != 4) = false := bne_eq_false_iff_eq.mpr c61
          clear c61
          replace H := Option.bind_eq_some_iff.mp H
          obtain ⟨t187, A620, H⟩ := H
          replace H : (some (t187 == 4)) = some r := H
          have A62 := Aside0.mk A620
          clear A620
          obtain rfl := Option.some.inj H
          have hcz63_0 : wc.cell? ⟨gb149, 0, none⟩ = some (.int .u8 t143) := (blk_cell BK149.out 0).trans rfl
          have hcz63_1 : wc.cell? ⟨gb149, 1, none⟩ = some (.string t144) := (blk_cell BK149.out 1).trans rfl
          have hcz63_2 : wc.cell? ⟨gb149, 2, none⟩ = some (.slice Ao6 t145.length co6) := (blk_cell BK149.out 2).trans rfl
          have hfz63_0 := blk_frozen BK149.out 0
          have hfz63_1 := blk_frozen BK149.out 1
          have hfz63_2 := blk_frozen BK149.out 2
          go_wp2_with (first | (go_at_call 25; (with_reducible refine (mailroomlaw07_wrong.calls (⟨#[77, 65, 73, 76, 32, 70, 82, 79, 77, 58, 32, 60, 97, 64, 98, 46, 99, 62]⟩ : ByteArray) t185 _ A58.out).mono ?_); rintro e w64 ⟨rfl, hb⟩; have n0_ := Aside0.mk (Kd.R_below (by (with_reducible repeat (first | apply Kd.R_alloc | apply Kd.R_drewN | apply Kd.R_drew)); exact HO_150002.out) hb); have n1_ := Aside0.mk (blk_below (g := gb149) (o := .cells #[.int .u8 t143, .string t144, .slice Ao6 t145.length co6] 27 (0, 0)) (by (with_reducible repeat (first | refine blk_drewN ?_ _ | refine blk_drew ?_ | refine blk_alloc ?_ _)); exact BK149.out) hb); have n2_ := Aside0.mk (below_step (by repeat (first | (with_reducible first | exact HB.out | apply below_alloc | apply pw_below_drewN | apply below_drew1 | refine below_set ?_ GE149.out) | exact HB.out)) hb); clear HO_150002; clear BK149; clear HB; have HO_150002 := n0_; have BK149 := n1_; have HB := n2_; clear n0_ n1_ n2_; (try clear hb); (try clear hb2); (try clear hk); (try clear hi)) | (go_at_call 25; (with_reducible refine (mailroomlaw07_wrong.calls (⟨#[68, 65, 84, 65, 32]⟩ : ByteArray) t186 _ A60.out).mono ?_); rintro e w65 ⟨rfl, hb⟩; have n0_ := Aside0.mk (Kd.R_below (by (with_reducible repeat (first | apply Kd.R_alloc | apply Kd.R_drewN | apply Kd.R_drew)); exact HO_150002.out) hb); have n1_ := Aside0.mk (blk_below (g := gb149) (o := .cells #[.int .u8 t143, .string t144, .slice Ao6 t145.length co6] 27 (0, 0)) (by (with_reducible repeat (first | refine blk_drewN ?_ _ | refine blk_drew ?_ | refine blk_alloc ?_ _)); exact BK149.out) hb); have n2_ := Aside0.mk (below_step (by repeat (first | (with_reducible first | exact HB.out | apply below_alloc | apply pw_below_drewN | apply below_drew1 | refine below_set ?_ GE149.out) | exact HB.out)) hb); clear HO_150002; clear BK149; clear HB; have HO_150002 := n0_; have BK149 := n1_; have HB := n2_; clear n0_ n1_ n2_; (try clear hb); (try clear hb2); (try clear hk); (try clear hi)) | (go_at_call 25; (with_reducible refine (mailroomlaw07_wrong.calls (⟨#[82, 67, 80, 84, 32, 84, 79, 58, 60, 62]⟩ : ByteArray) t187 _ A62.out).mono ?_); rintro e w66 ⟨rfl, hb⟩; have n0_ := Aside0.mk (Kd.R_below (by (with_reducible repeat (first | apply Kd.R_alloc | apply Kd.R_drewN | apply Kd.R_drew)); exact HO_150002.out) hb); have n1_ := Aside0.mk (blk_below (g := gb149) (o := .cells #[.int .u8 t143, .string t144, .slice Ao6 t145.length co6] 27 (0, 0)) (by (with_reducible repeat (first | refine blk_drewN ?_ _ | refine blk_drew ?_ | refine blk_alloc ?_ _)); exact BK149.out) hb); have n2_ := Aside0.mk (below_step (by repeat (first | (with_reducible first | exact HB.out | apply below_alloc | apply pw_below_drewN | apply below_drew1 | refine below_set ?_ GE149.out) | exact HB.out)) hb); clear HO_150002; clear BK149; clear HB; have HO_150002 := n0_; have BK149 := n1_; have HB := n2_; clear n0_ n1_ n2_; (try clear hb); (try clear hb2); (try clear hk); (try clear hi)))
          go_ret
          exact ⟨by first | rfl | (simp [errW_none, errW_some] <;> rfl) | (simp [*, errW_none, errW_some] <;> rfl), by repeat (first | (with_reducible first | exact HB.out | apply below_alloc | apply pw_below_drewN | apply below_drew1 | refine below_set ?_ GE149.out) | exact HB.out)⟩
         ·rw [if_neg c61] at H
          have c61b0 : (t186 == 4) = false := beq_eq_false_iff_ne.mpr c61
          have c61b1 : (t186 != 4) = true := bne_iff_ne.mpr c61
          obtain rfl := Option.some.inj H
          have hcz67_0 : wc.cell? ⟨gb149, 0, none⟩ = some (.int .u8 t143) := (blk_cell BK149.out 0).trans rfl
          have hcz67_1 : wc.cell? ⟨gb149, 1, none⟩ = some (.string t144) := (blk_cell BK149.out 1).trans rfl
          have hcz67_2 : wc.cell? ⟨gb149, 2, none⟩ = some (.slice Ao6 t145.length co6) := (blk_cell BK149.out 2).trans rfl
          have hfz67_0 := blk_frozen BK149.out 0
          have hfz67_1 := blk_frozen BK149.out 1
          have hfz67_2 := blk_frozen BK149.out 2
          go_wp2_with (first | (go_at_call 25; (with_reducible refine (mailroomlaw07_wrong.calls (⟨#[77, 65, 73, 76, 32, 70, 82, 79, 77, 58, 32, 60, 97, 64, 98, 46, 99, 62]⟩ : ByteArray) t185 _ A58.out).mono ?_); rintro e w68 ⟨rfl, hb⟩; have n0_ := Aside0.mk (Kd.R_below (by (with_reducible repeat (first | apply Kd.R_alloc | apply Kd.R_drewN | apply Kd.R_drew)); exact HO_150002.out) hb); have n1_ := Aside0.mk (blk_below (g := gb149) (o := .cells #[.int .u8 t143, .string t144, .slice Ao6 t145.length co6] 27 (0, 0)) (by (with_reducible repeat (first | refine blk_drewN ?_ _ | refine blk_drew ?_ | refine blk_alloc ?_ _)); exact BK149.out) hb); have n2_ := Aside0.mk (below_step (by repeat (first | (with_reducible first | exact HB.out | apply below_alloc | apply pw_below_drewN | apply below_drew1 | refine below_set ?_ GE149.out) | exact HB.out)) hb); clear HO_150002; clear BK149; clear HB; have HO_150002 := n0_; have BK149 := n1_; have HB := n2_; clear n0_ n1_ n2_; (try clear hb); (try clear hb2); (try clear hk); (try clear hi)) | (go_at_call 25; (with_reducible refine (mailroomlaw07_wrong.calls (⟨#[68, 65, 84, 65, 32]⟩ : ByteArray) t186 _ A60.out).mono ?_); rintro e w69 ⟨rfl, hb⟩; have n0_ := Aside0.mk (Kd.R_below (by (with_reducible repeat (first | apply Kd.R_alloc | apply Kd.R_drewN | apply Kd.R_drew)); exact HO_150002.out) hb); have n1_ := Aside0.mk (blk_below (g := gb149) (o := .cells #[.int .u8 t143, .string t144, .slice Ao6 t145.length co6] 27 (0, 0)) (by (with_reducible repeat (first | refine blk_drewN ?_ _ | refine blk_drew ?_ | refine blk_alloc ?_ _)); exact BK149.out) hb); have n2_ := Aside0.mk (below_step (by repeat (first | (with_reducible first | exact HB.out | apply below_alloc | apply pw_below_drewN | apply below_drew1 | refine below_set ?_ GE149.out) | exact HB.out)) hb); clear HO_150002; clear BK149; clear HB; have HO_150002 := n0_; have BK149 := n1_; have HB := n2_; clear n0_ n1_ n2_; (try clear hb); (try clear hb2); (try clear hk); (try clear hi)))
          go_ret
          exact ⟨by first | rfl | (simp [errW_none, errW_some] <;> rfl) | (simp [*, errW_none, errW_some] <;> rfl), by repeat (first | (with_reducible first | exact HB.out | apply below_alloc | apply pw_below_drewN | apply below_drew1 | refine below_set ?_ GE149.out) | exact HB.out)⟩
        ·rw [if_neg c59] at H
         have c59b0 : (t185 == 4) = false := beq_eq_false_iff_ne.mpr c59
         have c59b1 : (t185 != 4) = true := bne_iff_ne.mpr c59
         obtain rfl := Option.some.inj H
         have hcz70_0 : wc.cell? ⟨gb149, 0, none⟩ = some (.int .u8 t143) := (blk_cell BK149.out 0).trans rfl
         have hcz70_1 : wc.cell? ⟨gb149, 1, none⟩ = some (.string t144) := (blk_cell BK149.out 1).trans rfl
         have hcz70_2 : wc.cell? ⟨gb149, 2, none⟩ = some (.slice Ao6 t145.length co6) := (blk_cell BK149.out 2).trans rfl
         have hfz70_0 := blk_frozen BK149.out 0
         have hfz70_1 := blk_frozen BK149.out 1
         have hfz70_2 := blk_frozen BK149.out 2
         go_wp2_with (first | (go_at_call 25; (with_reducible refine (mailroomlaw07_wrong.calls (⟨#[77, 65, 73, 76, 32, 70, 82, 79, 77, 58, 32, 60, 97, 64, 98, 46, 99, 62]⟩ : ByteArray) t185 _ A58.out).mono ?_); rintro e w71 ⟨rfl, hb⟩; have n0_ := Aside0.mk (Kd.R_below (by (with_reducible repeat (first | apply Kd.R_alloc | apply Kd.R_drewN | apply Kd.R_drew)); exact HO_150002.out) hb); have n1_ := Aside0.mk (blk_below (g := gb149) (o := .cells #[.int .u8 t143, .string t144, .slice Ao6 t145.length co6] 27 (0, 0)) (by (with_reducible repeat (first | refine blk_drewN ?_ _ | refine blk_drew ?_ | refine blk_alloc ?_ _)); exact BK149.out) hb); have n2_ := Aside0.mk (below_step (by repeat (first | (with_reducible first | exact HB.out | apply below_alloc | apply pw_below_drewN | apply below_drew1 | refine below_set ?_ GE149.out) | exact HB.out)) hb); clear HO_150002; clear BK149; clear HB; have HO_150002 := n0_; have BK149 := n1_; have HB := n2_; clear n0_ n1_ n2_; (try clear hb); (try clear hb2); (try clear hk); (try clear hi)))
         go_ret
         exact ⟨by first | rfl | (simp [errW_none, errW_some] <;> rfl) | (simp [*, errW_none, errW_some] <;> rfl), by repeat (first | (with_reducible first | exact HB.out | apply below_alloc | apply pw_below_drewN | apply below_drew1 | refine below_set ?_ GE149.out) | exact HB.out)⟩
       ·rw [if_neg c57] at H
        have c57b0 : ((t145.length : Int) == 0) = false := beq_eq_false_iff_ne.mpr c57
        have c57b1 : ((t145.length : Int) != 0) = true := bne_iff_ne.mpr c57
        have c57b2 : ¬ (t145 = []) := fun h_ => c57 (by rw [h_]; rfl)
        obtain rfl := Option.some.inj H
        have hcz72_0 : wc.cell? ⟨gb149, 0, none⟩ = some (.int .u8 t143) := (blk_cell BK149.out 0).trans rfl
        have hcz72_1 : wc.cell? ⟨gb149, 1, none⟩ = some (.string t144) := (blk_cell BK149.out 1).trans rfl
        have hcz72_2 : wc.cell? ⟨gb149, 2, none⟩ = some (.slice Ao6 t145.length co6) := (blk_cell BK149.out 2).trans rfl
        have hfz72_0 := blk_frozen BK149.out 0
        have hfz72_1 := blk_frozen BK149.out 1
        have hfz72_2 := blk_frozen BK149.out 2
        go_wp2
        go_ret
        exact ⟨by first | rfl | (simp [errW_none, errW_some] <;> rfl) | (simp [*, errW_none, errW_some] <;> rfl), by repeat (first | (with_reducible first | exact HB.out | apply below_alloc | apply pw_below_drewN | apply below_drew1 | refine below_set ?_ GE149.out) | exact HB.out)⟩
      ·rw [if_neg c56] at H
       have c56b0 : (t144.toList == ([109, 120, 46, 101, 120, 97, 109, 112, 108, 101] : List UInt8)) = false := beq_eq_false_iff_ne.mpr c56
       have c56b1 : (t144.toList != ([109, 120, 46, 101, 120, 97, 109, 112, 108, 101] : List UInt8)) = true := bne_iff_ne.mpr c56
       obtain rfl := Option.some.inj H
       have hcz73_0 : wc.cell? ⟨gb149, 0, none⟩ = some (.int .u8 t143) := (blk_cell BK149.out 0).trans rfl
       have hcz73_1 : wc.cell? ⟨gb149, 1, none⟩ = some (.string t144) := (blk_cell BK149.out 1).trans rfl
       have hcz73_2 : wc.cell? ⟨gb149, 2, none⟩ = some (.slice Ao6 t145.length co6) := (blk_cell BK149.out 2).trans rfl
       have hfz73_0 := blk_frozen BK149.out 0
       have hfz73_1 := blk_frozen BK149.out 1
       have hfz73_2 := blk_frozen BK149.out 2
       go_wp2
       go_ret
       exact ⟨by first | rfl | (simp [errW_none, errW_some] <;> rfl) | (simp [*, errW_none, errW_some] <;> rfl), by repeat (first | (with_reducible first | exact HB.out | apply below_alloc | apply pw_below_drewN | apply below_drew1 | refine below_set ?_ GE149.out) | exact HB.out)⟩
     ·rw [if_neg c55] at H
      have c55b0 : (t143 == 1) = false := beq_eq_false_iff_ne.mpr c55
      have c55b1 : (t143 != 1) = true := bne_iff_ne.mpr c55
      obtain rfl := Option.some.inj H
      have hcz74_0 : wc.cell? ⟨gb149, 0, none⟩ = some (.int .u8 t143) := (blk_cell BK149.out 0).trans rfl
      have hcz74_1 : wc.cell? ⟨gb149, 1, none⟩ = some (.string t144) := (blk_cell BK149.out 1).trans rfl
      have hcz74_2 : wc.cell? ⟨gb149, 2, none⟩ = some (.slice Ao6 t145.length co6) := (blk_cell BK149.out 2).trans rfl
      have hfz74_0 := blk_frozen BK149.out 0
      have hfz74_1 := blk_frozen BK149.out 1
      have hfz74_2 := blk_frozen BK149.out 2
      go_wp2
      go_ret
      exact ⟨by first | rfl | (simp [errW_none, errW_some] <;> rfl) | (simp [*, errW_none, errW_some] <;> rfl), by repeat (first | (with_reducible first | exact HB.out | apply below_alloc | apply pw_below_drewN | apply below_drew1 | refine below_set ?_ GE149.out) | exact HB.out)⟩
    ·rw [if_neg c54] at H
     have c54b0 : (t148 == 0) = false := beq_eq_false_iff_ne.mpr c54
     have c54b1 : (t148 != 0) = true := bne_iff_ne.mpr c54
     obtain rfl := Option.some.inj H
     go_wp2
     go_ret
     exact ⟨by first | rfl | (simp [errW_none, errW_some] <;> rfl) | (simp [*, errW_none, errW_some] <;> rfl), by repeat (first | (with_reducible first | exact HB.out | apply below_alloc | apply pw_below_drewN | apply below_drew1 | refine below_set ?_ GE149.out) | exact HB.out)⟩
end Go.Proofs.YtljkopbalejcgaaGreatDoor.P
end
section
set_option linter.unusedVariables false
set_option linter.unusedSimpArgs false
namespace Go.Proofs.YtljkopbalejcgaaGreatDoor.P
open Go Go.RowKit Go.Lib Go.Proofs.YtljkopbalejcgaaGreatDoorW.PrintWords
theorem aw_all : mailroomlaw07_awake.f 5 = some true := by kernel_rfl
theorem EvF.at {α : Type} {f : Nat → Option α} {v : α} (n : Nat) (h : f n = some v) (hm : ∀ k, LeO (f k) (f (k + 1))) : EvF f v := by
 have key : ∀ j, f (n + j) = some v := by
  intro j
  induction j with
  | zero => exact h
  | succ j ih => exact hm _ _ ih
 exact ⟨n, fun k hk => by obtain ⟨j, rfl⟩ : ∃ j, k = n + j := ⟨k - n, by omega⟩; exact key j⟩
theorem awake_ev : EvF (fun k => mailroomlaw07_awake.f k) true := EvF.at 5 aw_all mailroomlaw07_awake.mono
end Go.Proofs.YtljkopbalejcgaaGreatDoor.P
end
