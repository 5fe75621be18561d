/- Words, walks and plain laws of the statement that the last of these texts proves. -/
import Derived.Test.YtljkopbalejcgaaDoorMc2
section
namespace Go.Proofs.YtljkopbalejcgaaDoor.P
open Go.RowKit Go.Proofs.YtljkopbalejcgaaDoorW.PrintWords Go.Proofs.YtljkopbalejcgaaDoorW.PrintLast Go.Proofs.YtljkopbalejcgaaDoorW.PrintMore
attribute [local go_sem] max2_int min2_int max_two min_two max_three min_three max_four min_four
set_option linter.unusedVariables false
set_option linter.unusedSimpArgs false
def mailroomlaw07_all.f  : Option (Bool × Bool × Bool × Bool × Bool × Bool × Int) := some (true, true, true, true, true, true, 9999)
set_option maxHeartbeats 8000000 in
set_option maxRecDepth 100000 in
theorem mailroomlaw07_all.calls  (r1 : Bool) (r2 : Bool) (r3 : Bool) (r4 : Bool) (r5 : Bool) (r6 : Bool) (r7 : Int) (w : World) (h : mailroomlaw07_all.f  = some (r1, r2, r3, r4, r5, r6, r7)) :
  Calls Tryd.prog 21 #[] w fun e w' => e = .returned (.agg #[.bool r1, .bool r2, .bool r3, .bool r4, .bool r5, .bool r6, .int .i64 r7]) ∧ Below w.heap.size w w' := by
 have hu23 := Tryd.underlying23
 have HB := Aside0.mk (Below.refl w.heap.size w)
 have H : (some (true, true, true, true, true, true, 9999)) = some (r1, r2, r3, r4, r5, r6, r7) := h
 clear h
 simp only [Option.some.injEq, Prod.mk.injEq] at H
 obtain ⟨rfl, rfl, rfl, rfl, rfl, rfl, rfl⟩ := H
 go_enter Tryd.func21, Tryd.ntmps21
 go_wp2_with (first | ((with_reducible refine gate_dst (N := 0) rfl ?_); refine box_event ?hg (N := 0) ?hd (cs := #[.bool false, .bool false, .bool false, .bool false, .bool false, .bool false, .int .i64 0]) (t := 23) ?hr ?_; (case hd => rfl); (case hg => rfl); (case hr => first | (go_simp; done) | (go_simp; rfl)); intro gb142 hg w1 hbox hb; have n0_ := Aside0.mk (below_step (by repeat (first | (with_reducible first | exact HB.out | apply below_alloc | apply pw_below_drewN | apply below_drew1) | exact HB.out)) hb); have n1_ := Aside0.mk (hbox); have n2_ := Aside0.mk ((by rw [hg]; exact (below_size (by repeat (first | (with_reducible first | exact HB.out | apply below_alloc | apply pw_below_drewN | apply below_drew1) | exact HB.out))) : w.heap.size ≤ gb142)); have n3_ := Aside0.mk ((by rw [hg]; exact (below_size (by repeat (first | (with_reducible first | exact HB.out | apply below_alloc | apply pw_below_drewN | apply below_drew1) | exact HB.out))) : w.heap.size ≤ gb142)); clear HB; have HB := n0_; have BK142 := n1_; have GW142 := n2_; have GE142 := n3_; clear n0_ n1_ n2_ n3_; clear hb hbox hg; have hcz2_0 : w1.cell? ⟨gb142, 0, none⟩ = some (.bool false) := (blk_cell BK142.out 0).trans rfl; have hcz2_1 : w1.cell? ⟨gb142, 1, none⟩ = some (.bool false) := (blk_cell BK142.out 1).trans rfl; have hcz2_2 : w1.cell? ⟨gb142, 2, none⟩ = some (.bool false) := (blk_cell BK142.out 2).trans rfl; have hcz2_3 : w1.cell? ⟨gb142, 3, none⟩ = some (.bool false) := (blk_cell BK142.out 3).trans rfl; have hcz2_4 : w1.cell? ⟨gb142, 4, none⟩ = some (.bool false) := (blk_cell BK142.out 4).trans rfl; have hcz2_5 : w1.cell? ⟨gb142, 5, none⟩ = some (.bool false) := (blk_cell BK142.out 5).trans rfl; have hcz2_6 : w1.cell? ⟨gb142, 6, none⟩ = some (.int .i64 0) := (blk_cell BK142.out 6).trans rfl; have hfz2_0 := blk_frozen BK142.out 0; have hfz2_1 := blk_frozen BK142.out 1; have hfz2_2 := blk_frozen BK142.out 2; have hfz2_3 := blk_frozen BK142.out 3; have hfz2_4 := blk_frozen BK142.out 4; have hfz2_5 := blk_frozen BK142.out 5; have hfz2_6 := blk_frozen BK142.out 6))
 refine bodyPost_ret (results_cell_row rfl _ _ gb142 23 #[.bool true, .bool true, .bool true, .bool true, .bool true, .bool true, .int .i64 9999] (0, 0) _ rfl (by (with_reducible repeat (first | refine blk_drewN ?_ _ | refine blk_drew ?_ | refine blk_alloc ?_ _)); refine blk_put (cs := #[.bool true, .bool true, .bool true, .bool true, .bool true, .bool true, .int .i64 0]) ?_ 6 _ rfl; (with_reducible repeat (first | refine blk_drewN ?_ _ | refine blk_drew ?_ | refine blk_alloc ?_ _)); refine blk_put (cs := #[.bool true, .bool true, .bool true, .bool true, .bool true, .bool false, .int .i64 0]) ?_ 5 _ rfl; (with_reducible repeat (first | refine blk_drewN ?_ _ | refine blk_drew ?_ | refine blk_alloc ?_ _)); refine blk_put (cs := #[.bool true, .bool true, .bool true, .bool true, .bool false, .bool false, .int .i64 0]) ?_ 4 _ rfl; (with_reducible repeat (first | refine blk_drewN ?_ _ | refine blk_drew ?_ | refine blk_alloc ?_ _)); refine blk_put (cs := #[.bool true, .bool true, .bool true, .bool false, .bool false, .bool false, .int .i64 0]) ?_ 3 _ rfl; (with_reducible repeat (first | refine blk_drewN ?_ _ | refine blk_drew ?_ | refine blk_alloc ?_ _)); refine blk_put (cs := #[.bool true, .bool true, .bool false, .bool false, .bool false, .bool false, .int .i64 0]) ?_ 2 _ rfl; (with_reducible repeat (first | refine blk_drewN ?_ _ | refine blk_drew ?_ | refine blk_alloc ?_ _)); refine blk_put (cs := #[.bool true, .bool false, .bool false, .bool false, .bool false, .bool false, .int .i64 0]) ?_ 1 _ rfl; (with_reducible repeat (first | refine blk_drewN ?_ _ | refine blk_drew ?_ | refine blk_alloc ?_ _)); refine blk_put (cs := #[.bool false, .bool false, .bool false, .bool false, .bool false, .bool false, .int .i64 0]) ?_ 0 _ rfl; (with_reducible repeat (first | refine blk_drewN ?_ _ | refine blk_drew ?_ | refine blk_alloc ?_ _)); exact BK142.out) Tryd.underlying23 rfl (by kernel_rfl)) rfl ?_
 exact ⟨by first | rfl | (simp [errW_none, errW_some] <;> rfl) | (simp [*, errW_none, errW_some] <;> rfl), by repeat (first | (with_reducible first | exact HB.out | apply below_alloc | apply pw_below_drewN | apply below_drew1 | refine below_set ?_ GE142.out) | exact HB.out)⟩
end Go.Proofs.YtljkopbalejcgaaDoor.P
end
section
namespace Go.Proofs.YtljkopbalejcgaaDoor.P
open Go.RowKit Go.Proofs.YtljkopbalejcgaaDoorW.PrintWords Go.Proofs.YtljkopbalejcgaaDoorW.PrintLast Go.Proofs.YtljkopbalejcgaaDoorW.PrintMore
attribute [local go_sem] max2_int min2_int max_two min_two max_three min_three max_four min_four
set_option linter.unusedVariables false
set_option linter.unusedSimpArgs false
open Go Go.Lib
def CmdAt (base g : Nat) (vb : Int) (a : ByteArray) (u : Value) (xs : List S49) (W : World) : Prop :=
 Kd.R k49 49 W base (fun _ => True) u xs ∧ W.heap[g]? = some (.cells #[.int .u8 vb, .string a, u] 27 (0, 0))
def KeepT (g : Nat) (W W' : World) : Prop := ∀ k cs t, W.heap[k]? = some (.cells cs t (0, 0)) → t ≠ 49 → k ≠ g → W'.heap[k]? = some (.cells cs t (0, 0))
set_option maxHeartbeats 1000000 in
theorem mail1_calls (w0 W : World) (base g : Nat) (hbase : base ≤ W.heap.size) (o q : Bool) (n v a : ByteArray) (vb : Int) (u : Value) (xs : List S49) (hl : xs.length ≤ 1000000) (hg : base ≤ g)
  (hC : CmdAt base g vb a u xs W) (HB0 : Below base w0 W) :
  Calls Tryd.prog 22 (#[.bool o, .bool q, .string n, .string v] ++ #[.pointer (some ⟨g, 0, none⟩)]) W fun e W' => e = .returned (.tuple #[]) ∧ (∃ u', CmdAt base g vb a u' (if (o && q) = true then xs ++ [⟨n, v⟩] else xs) W') ∧ Below base w0 W' ∧ KeepT g W W' := by
 have HC := Aside0.mk hC
 have HB := Aside0.mk HB0
 clear HB0
 obtain ⟨hR, hk⟩ := hC
 obtain ⟨Ao, co, rfl⟩ := Kd.R_slice hR
 have HR := Aside0.mk hR
 have HK := Aside0.mk hk
 have hc2 : W.cell? ⟨g, 2, none⟩ = some (.slice Ao xs.length co) := (blk_cell hk 2).trans rfl
 have hf2 := blk_frozen hk 2
 have HNE := Aside0.mk (Kd.R_types HR.out HK.out (by decide)).1
 clear hR hk
 cases o with
 | false =>
  go_enter Tryd.func22, Tryd.ntmps22
  go_wp2
  refine bodyPost_end (v := .tuple #[]) (results_none rfl _ _ _) rfl ?_
  exact ⟨rfl, ⟨_, HC.out⟩, HB.out, fun k cs t h _ _ => h⟩
 | true =>
  cases q with
  | false =>
   go_enter Tryd.func22, Tryd.ntmps22
   go_wp2
   refine bodyPost_end (v := .tuple #[]) (results_none rfl _ _ _) rfl ?_
   exact ⟨rfl, ⟨_, HC.out⟩, HB.out, fun k cs t h _ _ => h⟩
  | true =>
   go_enter Tryd.func22, Tryd.ntmps22
   go_wp2_with (at_builtin; refine Kd.R_append k49 (w0 := w0) base rfl (.tmp 14) (.tmp 18) 25 49 (.agg #[(.string ⟨#[]⟩), (.string ⟨#[]⟩)]) 32 rfl Tryd.underlying25 info49 rfl (by decide) (by omega) (.slice Ao xs.length co) xs ⟨n, v⟩ [.string n, .string v] (fun _ => True) (fun _ => False) rfl rfl ?aP (fun _ hk => hk.elim) ?aF ?aO ?aB ?aS ?aL ?_; (case aP => exact k49_mkM _ _ _ _); (case aF => exact fun _ _ => trivial); (case aO => exact HR.out); (case aB => exact HB.out); (case aS => exact hbase); (case aL => omega); intro v1 W1 ho hb hgr hat; obtain ⟨A1, c1, rfl⟩ := Kd.R_slice ho; have hk1 := blk_grown HK.out hgr (fun e => (HNE.out _ e.symm).2 rfl); have hc1 : W1.cell? ⟨g, 2, none⟩ = some (.slice Ao xs.length co) := (blk_cell hk1 2).trans rfl; have hf1 := blk_frozen hk1 2; have HK1 := Aside0.mk hk1; have HO := Aside0.mk ho; have HB1 := Aside0.mk hb; have HGR := Aside0.mk hgr; clear hk1 ho hb hgr hat)
   refine bodyPost_end (v := .tuple #[]) (results_none rfl _ _ _) rfl ?_
   have ho := HO.out
   rw [show (xs ++ [(⟨n, v⟩ : S49)]).length = xs.length + 1 from by simp] at ho
   refine ⟨rfl, ⟨.slice A1 (xs.length + 1) c1, Kd.R_set ho HK1.out (by decide) 2 _, blk_put HK1.out 2 _ rfl⟩, HB1.out.setCell (p := ⟨g, 2, none⟩) hg _, fun k cs t hk ht hkg => ?_⟩
   have hne := (Kd.R_types HR.out hk (by intro q hq; have hq' : q ∈ [49] := hq; simp at hq'; subst hq'; exact fun e => ht e.symm)).1
   exact (Below.heap_setCell W1 ⟨g, 2, none⟩ _ k hkg).trans (blk_grown hk HGR.out (fun e => (hne _ e.symm).2 rfl))
def idByte (c : UInt8) : Bool := (decide (97 ≤ c) && decide (c ≤ 122)) || (decide (65 ≤ c) && decide (c ≤ 90)) || (decide (48 ≤ c) && decide (c ≤ 57)) || c == 45
theorem idByte_int (c : UInt8) : idByte c = ((decide ((97 : Int) ≤ (c.toNat : Int)) && decide ((c.toNat : Int) ≤ 122)) || (decide ((65 : Int) ≤ (c.toNat : Int)) && decide ((c.toNat : Int) ≤ 90)) || (decide ((48 : Int) ≤ (c.toNat : Int)) && decide ((c.toNat : Int) ≤ 57)) || ((c.toNat : Int) == 45)) := by
 unfold idByte; rw [u8_beq c 45, Bool.eq_iff_iff]; simp [UInt8.le_iff_toNat_le]; omega
set_option maxHeartbeats 1000000 in
theorem mail2_calls (c : UInt8) (w : World) : Calls Tryd.prog 25 (#[.int .u8 c.toNat] ++ #[]) w fun e w' => e = .returned (.bool (!idByte c)) ∧ w' = w := by
 have hb : 0 ≤ (c.toNat : Int) ∧ (c.toNat : Int) ≤ 255 := by have := c.toNat_lt; omega
 have HE := Lib.hid (idByte_int c)
 go_enter Tryd.func25, Tryd.ntmps25
 go_wp2
 all_goals
  go_ret
  refine ⟨congrArg (fun b => Ending.returned (.bool b)) ?_, rfl⟩
  rw [HE.out, Bool.eq_iff_iff] <;> simp <;> omega
def mailRow (c5 c2 c3 rq : Bool) (n id : ByteArray) : List S49 :=
 let x0 : List S49 := if (c5 && true) = true then [] ++ [⟨⟨#[83, 73, 90, 69]⟩, n⟩] else []
 let x1 : List S49 := if (c2 && rq) = true then x0 ++ [⟨⟨#[82, 69, 81, 85, 73, 82, 69, 84, 76, 83]⟩, ⟨#[]⟩⟩] else x0
 if (c3 && (!id.toList.isEmpty)) = true then x1 ++ [⟨⟨#[69, 78, 86, 73, 68]⟩, id⟩] else x1
theorem CmdAt.below {base g : Nat} {vb : Int} {a : ByteArray} {u : Value} {xs : List S49} {W W' : World} (h : CmdAt base g vb a u xs W) (hb : Below W.heap.size W W') : CmdAt base g vb a u xs W' := ⟨Kd.R_below h.1 hb, blk_below h.2 hb⟩
theorem CmdAt.drewN {base g : Nat} {vb : Int} {a : ByteArray} {u : Value} {xs : List S49} {W : World} (h : CmdAt base g vb a u xs W) (n : Nat) : CmdAt base g vb a u xs (W.drewN n) := h.below (pw_below_drewN (Below.refl _ _) n)
theorem CmdAt.drew {base g : Nat} {vb : Int} {a : ByteArray} {u : Value} {xs : List S49} {W : World} (h : CmdAt base g vb a u xs W) : CmdAt base g vb a u xs W.drew := h.below (below_drew1 (Below.refl _ _))
theorem GL.drew {W : World} (h : GL W) : GL W.drew := h.of_below (below_drew1 (Below.refl _ _))
theorem GL.drewN {W : World} (h : GL W) (n : Nat) : GL (W.drewN n) := h.of_below (pw_below_drewN (Below.refl _ _) n)
theorem cont_any (g : Nat) (eg : ∀ args w, (callFunc g args).run Tryd.prog w = .ok (.enter g args) w) (p : UInt8 → Bool) (hcl : ∀ c W, Calls Tryd.prog g (#[.int .u8 c.toNat] ++ #[]) W fun e W' => e = .returned (.bool (!p c)) ∧ W' = W)
  (v : ByteArray) (hv : v.size ≤ 140737488351232) (W1 : World) (cap : Nat) :
  Calls Tryd.prog 24 #[.slice (some ⟨W1.heap.size, 0, none⟩) v.size cap, .func (.func g) #[] #[]] (bytesWorld W1 5 v) fun e w' => e = .returned (.bool (!v.data.toList.all p)) ∧ Below W1.heap.size W1 w' := by
 have hrow := brow_conv W1 5 v
 have hbel := below_conv W1 5 v
 have hsz := bytesWorld_size W1 5 v
 generalize bytesWorld W1 5 v = W2 at hrow hbel hsz
 refine (has_byte g #[] eg v.size W1.heap.size cap (fun j => .int .u8 (v.data.toList.getD j 0).toNat) (fun j => !p (v.data.toList.getD j 0)) W2 hv (by omega) ?_ ?_).mono ?_
 ·intro j hj
  have hj' : j < v.data.toList.length := by rw [len_eq]; exact hj
  rw [(hrow j hj').1, getD_at _ j hj']
 ·intro j hj W hW
  exact (hcl _ W).mono fun e W' ⟨he, hw⟩ => ⟨he, by rw [hw]; exact hW⟩
 ·rintro e w' ⟨rfl, hb⟩
  refine ⟨congrArg (fun b => Ending.returned (.bool b)) ?_, below_then hbel hbel.size hb⟩
  rw [Bool.eq_iff_iff]
  simp only [List.any_eq_true, Bool.not_eq_true', List.all_eq_false, List.mem_range]
  constructor
  ·rintro ⟨j, hj, h⟩
   have hj' : j < v.data.toList.length := by rw [len_eq]; exact hj
   exact ⟨v.data.toList[j], List.getElem_mem hj', by rw [getD_at _ j hj'] at h; simpa using h⟩
  ·rintro ⟨x, hx, h⟩
   obtain ⟨j, hj, rfl⟩ := List.getElem_of_mem hx
   exact ⟨j, by rw [← len_eq]; exact hj, by rw [getD_at _ j hj]; simpa using h⟩
set_option maxHeartbeats 2000000 in
set_option maxRecDepth 100000 in
theorem mail_walk (a0 : ByteArray) (b0 b1 b2 b3 b4 b5 : Bool) (b6 a2 : Int) (a3 : Bool) (a4 n : ByteArray) (w : World) (hG : GL w) (hn : code_Show.f a2 = some n) (h4 : a4.size ≤ 140737488351232) (rr : Bool) (hrr : cmd_May.f 1 3 a0 (mailRow b5 b2 b3 a3 n a4) = some rr)
  (r1 : Int) (r2 : ByteArray) (r3 : List S49) (r4 : Int) (HRES : Hid ((if (decide (a2 < 0) || !a4.data.toList.all idByte || decide (32 < (a4.size : Int)) || !rr) = true then (0, ⟨#[]⟩, [], 4) else (3, a0, mailRow b5 b2 b3 a3 n a4, 0)) = (r1, r2, r3, r4))) :
  Calls Tryd.prog 8 #[.string a0, .agg #[.bool b0, .bool b1, .bool b2, .bool b3, .bool b4, .bool b5, .int .i64 b6], .int .i64 a2, .bool a3, .string a4] w fun e w' => ∃ v2_ : Value, e = .returned (.tuple #[.agg #[.int .u8 r1, .string r2, v2_], .int .i64 r4]) ∧ Kd.R k49 49 w' w.heap.size (fun _ => True) v2_ r3 ∧ Below w.heap.size w w' := by
 obtain ⟨x0, hx0⟩ : ∃ x0 : List S49, x0 = (if (b5 && true) = true then [] ++ [⟨⟨#[83, 73, 90, 69]⟩, n⟩] else []) := ⟨_, rfl⟩
 have hl0 : x0.length ≤ 1 := by rw [hx0]; split <;> simp
 obtain ⟨x1, hx1⟩ : ∃ x1 : List S49, x1 = (if (b2 && a3) = true then x0 ++ [⟨⟨#[82, 69, 81, 85, 73, 82, 69, 84, 76, 83]⟩, ⟨#[]⟩⟩] else x0) := ⟨_, rfl⟩
 have hl1 : x1.length ≤ 2 := by
  rw [hx1]
  split
  ·rw [List.length_append]; simp; omega
  ·omega
 obtain ⟨row, hx2⟩ : ∃ x2 : List S49, x2 = (if (b3 && (!a4.toList.isEmpty)) = true then x1 ++ [⟨⟨#[69, 78, 86, 73, 68]⟩, a4⟩] else x1) := ⟨_, rfl⟩
 have hrow : mailRow b5 b2 b3 a3 n a4 = row := by rw [hx2, hx1, hx0]; rfl
 rw [hrow] at hrr HRES
 have HX0 := Aside0.mk hx0
 have HX1 := Aside0.mk hx1
 have HX2 := Aside0.mk hx2
 clear hx0 hx1 hx2 hrow
 obtain ⟨W0, hW0⟩ : ∃ W0, W0 = ((w.alloc (.cells #[.bool b0, .bool b1, .bool b2, .bool b3, .bool b4, .bool b5, .int .i64 b6] 23)).alloc (.cells #[.int .u8 0, .string ⟨#[]⟩, .slice none 0 0] 27)).alloc (.cells #[.int .u8 3, .string a0, .slice none 0 0] 27) := ⟨_, rfl⟩
 have hb0 : Below w.heap.size w W0 := by rw [hW0]; repeat (first | exact Below.refl _ _ | apply below_alloc)
 have hk6 : W0.heap[w.heap.size]? = some (.cells #[.bool b0, .bool b1, .bool b2, .bool b3, .bool b4, .bool b5, .int .i64 b6] 23 (0, 0)) := by rw [hW0]; exact blk_alloc (blk_alloc (heap_alloc_new _ _) _) _
 have hk10 : W0.heap[w.heap.size + 1]? = some (.cells #[.int .u8 0, .string ⟨#[]⟩, .slice none 0 0] 27 (0, 0)) := by rw [hW0]; exact blk_alloc (by have := heap_alloc_new (w.alloc (.cells #[.bool b0, .bool b1, .bool b2, .bool b3, .bool b4, .bool b5, .int .i64 b6] 23)) (.cells #[.int .u8 0, .string ⟨#[]⟩, .slice none 0 0] 27); rwa [World.size_alloc] at this) _
 have hk12 : W0.heap[w.heap.size + 1 + 1]? = some (.cells #[.int .u8 3, .string a0, .slice none 0 0] 27 (0, 0)) := by
  rw [hW0]
  have := heap_alloc_new ((w.alloc (.cells #[.bool b0, .bool b1, .bool b2, .bool b3, .bool b4, .bool b5, .int .i64 b6] 23)).alloc (.cells #[.int .u8 0, .string ⟨#[]⟩, .slice none 0 0] 27)) (.cells #[.int .u8 3, .string a0, .slice none 0 0] 27)
  rwa [World.size_alloc, World.size_alloc] at this
 have hat : CmdAt w.heap.size (w.heap.size + 1 + 1) 3 a0 (.slice none 0 0) [] W0 := ⟨Kd.R_nil _ _ _ _ _, hk12⟩
 have hG0 : GL W0 := hG.of_below hb0
 have hc65 : W0.cell? ⟨w.heap.size, 5, none⟩ = some (.bool b5) := blk_cell hk6 5
 have HB0 := Aside0.mk hb0
 have HK6 := Aside0.mk hk6
 have HK10 := Aside0.mk hk10
 have HAT := Aside0.mk hat
 have HG0 := Aside0.mk hG0
 have HLT : Aside0 (w.heap.size < W0.heap.size) := ⟨by rw [hW0]; simp; omega⟩
 clear hb0 hk6 hk10 hk12 hat hG0 hG
 go_enter Tryd.func8, Tryd.ntmps8
 go_wp2_with fail
 rw [← hW0]
 clear hW0
 go_region_held3 (fun W => W.cell? ⟨w.heap.size, 5, none⟩ = some (.bool b5)) (first | exact hc65 | assumption) (first
  | (go_at_call 23; refine (code_Show.calls a2 n _ hn (by first | exact HG0.out | exact HG0.out.drew | exact HG0.out.drewN _)).mono ?_; rintro e w1 ⟨rfl, hb⟩; have hc65b : w1.cell? ⟨w.heap.size, 5, none⟩ = some (.bool b5) := (hb.cell HLT.out).trans hc65; have HB1 : Aside0 (Below w.heap.size w w1) := ⟨below_step (below_drew1 HB0.out) hb⟩; have HAT1 := Aside0.mk (HAT.out.drew.below hb); have HK61 := Aside0.mk (blk_below (w := W0.drew) HK6.out hb); have HK101 := Aside0.mk (blk_below (w := W0.drew) HK10.out hb); clear hb)
  | (go_at_call 22; refine (mail1_calls w _ w.heap.size (w.heap.size + 1 + 1) HB1.out.size b5 true ⟨#[83, 73, 90, 69]⟩ n a0 3 (.slice none 0 0) [] (Nat.zero_le _) (by omega) HAT1.out HB1.out).mono ?_; rintro e w2 ⟨rfl, ⟨u1, h1⟩, h2, h3⟩; rw [← HX0.out] at h1; have HAT2 := Aside0.mk h1; have HB2 := Aside0.mk h2; have hk62 := h3 _ _ _ HK61.out (by decide) (by omega); have HK62 := Aside0.mk hk62; have HK102 := Aside0.mk (h3 _ _ _ HK101.out (by decide) (by omega)); have hc65c : w2.cell? ⟨w.heap.size, 5, none⟩ = some (.bool b5) := blk_cell hk62 5; have hc62 : w2.cell? ⟨w.heap.size, 2, none⟩ = some (.bool b2) := blk_cell hk62 2; clear h1 h2 h3 hk62 HAT1 HB1 HK61 HK101 HAT HB0 HK6 HK10 hc65 hc65b))
 go_upto_region 5 with (first
  | (go_at_call 22; refine (mail1_calls w _ w.heap.size (w.heap.size + 1 + 1) HB2.out.size b2 a3 ⟨#[82, 69, 81, 85, 73, 82, 69, 84, 76, 83]⟩ ⟨#[]⟩ a0 3 u1 x0 (by omega) (by omega) HAT2.out HB2.out).mono ?_; rintro e w3 ⟨rfl, ⟨u2, h1⟩, h2, h3⟩; rw [← HX1.out] at h1; have HAT3 := Aside0.mk h1; have HB3 := Aside0.mk h2; have hk62 := h3 _ _ _ HK62.out (by decide) (by omega); have HK63 := Aside0.mk hk62; have HK103 := Aside0.mk (h3 _ _ _ HK102.out (by decide) (by omega)); have hc63 : w3.cell? ⟨w.heap.size, 3, none⟩ = some (.bool b3) := blk_cell hk62 3; clear h1 h2 h3 hk62 HAT2 HB2 HK62 HK102 hc65c hc62))
 go_upto_region 6 with (first
  | (go_at_call 22; refine (mail1_calls w _ w.heap.size (w.heap.size + 1 + 1) HB3.out.size b3 (!a4.toList.isEmpty) ⟨#[69, 78, 86, 73, 68]⟩ a4 a0 3 u2 x1 (by omega) (by omega) HAT3.out HB3.out).mono ?_; rintro e w4 ⟨rfl, ⟨u3, h1⟩, h2, h3⟩; rw [← HX2.out] at h1; have HAT4 := Aside0.mk h1; have HB4 := Aside0.mk h2; have HK104 := Aside0.mk (h3 _ _ _ HK103.out (by decide) (by omega)); clear h1 h2 h3 HAT3 HB3 HK63 HK103 hc63))
 have hcv := _root_.Go.Lib.run_convert_string_bytes (P := Tryd.prog) w4 9 59 5 a4 Tryd.underlying9 Tryd.underlying59 Tryd.underlying5
 generalize grownCap _ a4.size 0 5 = cap at hcv
 have hcont := cont_any 25 (enters_of Tryd.func25 (by kernel_rfl) rfl) idByte mail2_calls a4 h4 w4 cap
 generalize a4.data.toList.all idByte = lt at hcont HRES
 generalize bytesWorld w4 5 a4 = W5 at hcv hcont
 obtain ⟨A3, c3, rfl⟩ := Kd.R_slice HAT4.out.1
 go_upto_region 7 with (first | (go_at_call 24; refine hcont.mono ?_; rintro e w6 ⟨rfl, hb⟩; have HAT6 := Aside0.mk (HAT4.out.below hb); have HK106 := Aside0.mk (blk_below HK104.out hb); have HB6 : Aside0 (Below w.heap.size w w6) := ⟨below_step HB4.out hb⟩; clear hb hcont hcv HAT4 HK104 HB4))
 have hk126 := HAT6.out.2
 have hk106 := HK106.out
 have hc0 : w6.cell? ⟨w.heap.size + 1 + 1, 0, none⟩ = some (.int .u8 3) := blk_cell hk126 0
 have hc1 : w6.cell? ⟨w.heap.size + 1 + 1, 1, none⟩ = some (.string a0) := blk_cell hk126 1
 have hc2 : w6.cell? ⟨w.heap.size + 1 + 1, 2, none⟩ = some (.slice A3 row.length c3) := blk_cell hk126 2
 have hb0 : w6.cell? ⟨w.heap.size + 1, 0, none⟩ = some (.int .u8 0) := blk_cell hk106 0
 have hb1 : w6.cell? ⟨w.heap.size + 1, 1, none⟩ = some (.string ⟨#[]⟩) := blk_cell hk106 1
 have hb2 : w6.cell? ⟨w.heap.size + 1, 2, none⟩ = some (.slice none 0 0) := blk_cell hk106 2
 have hg0 := blk_frozen hk106 0
 have hg1 := blk_frozen hk106 1
 have hg2 := blk_frozen hk106 2
 clear hk126 hk106
 by_cases hneg : decide (a2 < 0) = true
 ·have HE : Aside0 ((0 : Int) = r1 ∧ (⟨#[]⟩ : ByteArray) = r2 ∧ ([] : List S49) = r3 ∧ (4 : Int) = r4) := ⟨by have h := HRES; simp only [hneg] at h; simpa [Hid] using h⟩
  clear HRES
  go_wp2
  refine bodyPost_ret (results_ct rfl _ _ (w.heap.size + 1) 27 #[.int .u8 0, .string ⟨#[]⟩, .slice none 0 0] (0, 0) _ rfl (by refine blk_put (cs := #[.int .u8 0, .string ⟨#[]⟩, .slice none 0 0]) ?_ 2 _ rfl; refine blk_put (cs := #[.int .u8 0, .string ⟨#[]⟩, .slice none 0 0]) ?_ 1 _ rfl; refine blk_put (cs := #[.int .u8 0, .string ⟨#[]⟩, .slice none 0 0]) ?_ 0 _ rfl; first | exact HK107.out | exact HK106.out) Tryd.underlying27 rfl (by kernel_rfl)) rfl ?_
  obtain ⟨rfl, rfl, rfl, rfl⟩ := HE.out
  exact ⟨_, rfl, Kd.R_nil _ _ _ _ _, by repeat (first | exact HB6.out | exact HB7.out | refine below_set ?_ (by omega))⟩
 ·rw [Bool.not_eq_true] at hneg
  cases lt with
  | false =>
   have HE : Aside0 ((0 : Int) = r1 ∧ (⟨#[]⟩ : ByteArray) = r2 ∧ ([] : List S49) = r3 ∧ (4 : Int) = r4) := ⟨by have h := HRES; simp only [hneg, Bool.not_false] at h; simpa [Hid] using h⟩
   clear HRES
   go_wp2
   refine bodyPost_ret (results_ct rfl _ _ (w.heap.size + 1) 27 #[.int .u8 0, .string ⟨#[]⟩, .slice none 0 0] (0, 0) _ rfl (by refine blk_put (cs := #[.int .u8 0, .string ⟨#[]⟩, .slice none 0 0]) ?_ 2 _ rfl; refine blk_put (cs := #[.int .u8 0, .string ⟨#[]⟩, .slice none 0 0]) ?_ 1 _ rfl; refine blk_put (cs := #[.int .u8 0, .string ⟨#[]⟩, .slice none 0 0]) ?_ 0 _ rfl; first | exact HK107.out | exact HK106.out) Tryd.underlying27 rfl (by kernel_rfl)) rfl ?_
   obtain ⟨rfl, rfl, rfl, rfl⟩ := HE.out
   exact ⟨_, rfl, Kd.R_nil _ _ _ _ _, by repeat (first | exact HB6.out | exact HB7.out | refine below_set ?_ (by omega))⟩
  | true =>
   by_cases h32 : decide (32 < (a4.size : Int)) = true
   ·have HE : Aside0 ((0 : Int) = r1 ∧ (⟨#[]⟩ : ByteArray) = r2 ∧ ([] : List S49) = r3 ∧ (4 : Int) = r4) := ⟨by have h := HRES; simp only [hneg, h32] at h; simpa [Hid] using h⟩
    clear HRES
    go_wp2
    refine bodyPost_ret (results_ct rfl _ _ (w.heap.size + 1) 27 #[.int .u8 0, .string ⟨#[]⟩, .slice none 0 0] (0, 0) _ rfl (by refine blk_put (cs := #[.int .u8 0, .string ⟨#[]⟩, .slice none 0 0]) ?_ 2 _ rfl; refine blk_put (cs := #[.int .u8 0, .string ⟨#[]⟩, .slice none 0 0]) ?_ 1 _ rfl; refine blk_put (cs := #[.int .u8 0, .string ⟨#[]⟩, .slice none 0 0]) ?_ 0 _ rfl; first | exact HK107.out | exact HK106.out) Tryd.underlying27 rfl (by kernel_rfl)) rfl ?_
    obtain ⟨rfl, rfl, rfl, rfl⟩ := HE.out
    exact ⟨_, rfl, Kd.R_nil _ _ _ _ _, by repeat (first | exact HB6.out | exact HB7.out | refine below_set ?_ (by omega))⟩
   ·rw [Bool.not_eq_true] at h32
    cases rr with
    | false =>
     have HE : Aside0 ((0 : Int) = r1 ∧ (⟨#[]⟩ : ByteArray) = r2 ∧ ([] : List S49) = r3 ∧ (4 : Int) = r4) := ⟨by have h := HRES; simp only [hneg, h32, Bool.not_false] at h; simpa [Hid] using h⟩
     clear HRES
     go_wp2_with (go_at_call 17; refine (cmd_May.calls 1 3 a0 A3 c3 row _ w6 (Kd.R_reads' HAT6.out.1).2.2 (Kd.R_reads' HAT6.out.1).2.1 hrr).mono ?_; rintro e w7 ⟨rfl, hb⟩; have hk127 := blk_below HAT6.out.2 hb; have hk107 := blk_below HK106.out hb; have HAT7 := Aside0.mk (HAT6.out.below hb); have HK107 := Aside0.mk hk107; have HB7 : Aside0 (Below w.heap.size w w7) := ⟨below_step HB6.out hb⟩; have hd0 : w7.cell? ⟨w.heap.size + 1 + 1, 0, none⟩ = some (.int .u8 3) := blk_cell hk127 0; have hd1 : w7.cell? ⟨w.heap.size + 1 + 1, 1, none⟩ = some (.string a0) := blk_cell hk127 1; have hd2 : w7.cell? ⟨w.heap.size + 1 + 1, 2, none⟩ = some (.slice A3 row.length c3) := blk_cell hk127 2; have he0 : w7.cell? ⟨w.heap.size + 1, 0, none⟩ = some (.int .u8 0) := blk_cell hk107 0; have he1 : w7.cell? ⟨w.heap.size + 1, 1, none⟩ = some (.string ⟨#[]⟩) := blk_cell hk107 1; have he2 : w7.cell? ⟨w.heap.size + 1, 2, none⟩ = some (.slice none 0 0) := blk_cell hk107 2; have hf0 := blk_frozen hk107 0; have hf1 := blk_frozen hk107 1; have hf2 := blk_frozen hk107 2; have HK127 := Aside0.mk hk127; clear hb hk127 hk107)
     refine bodyPost_ret (results_ct rfl _ _ (w.heap.size + 1) 27 #[.int .u8 0, .string ⟨#[]⟩, .slice none 0 0] (0, 0) _ rfl (by refine blk_put (cs := #[.int .u8 0, .string ⟨#[]⟩, .slice none 0 0]) ?_ 2 _ rfl; refine blk_put (cs := #[.int .u8 0, .string ⟨#[]⟩, .slice none 0 0]) ?_ 1 _ rfl; refine blk_put (cs := #[.int .u8 0, .string ⟨#[]⟩, .slice none 0 0]) ?_ 0 _ rfl; first | exact HK107.out | exact HK106.out) Tryd.underlying27 rfl (by kernel_rfl)) rfl ?_
     obtain ⟨rfl, rfl, rfl, rfl⟩ := HE.out
     exact ⟨_, rfl, Kd.R_nil _ _ _ _ _, by repeat (first | exact HB6.out | exact HB7.out | refine below_set ?_ (by omega))⟩
    | true =>
     have HE : Aside0 ((3 : Int) = r1 ∧ a0 = r2 ∧ row = r3 ∧ (0 : Int) = r4) := ⟨by have h := HRES; simp only [hneg, h32] at h; simpa [Hid] using h⟩
     clear HRES
     go_wp2_with (go_at_call 17; refine (cmd_May.calls 1 3 a0 A3 c3 row _ w6 (Kd.R_reads' HAT6.out.1).2.2 (Kd.R_reads' HAT6.out.1).2.1 hrr).mono ?_; rintro e w7 ⟨rfl, hb⟩; have hk127 := blk_below HAT6.out.2 hb; have hk107 := blk_below HK106.out hb; have HAT7 := Aside0.mk (HAT6.out.below hb); have HK107 := Aside0.mk hk107; have HB7 : Aside0 (Below w.heap.size w w7) := ⟨below_step HB6.out hb⟩; have hd0 : w7.cell? ⟨w.heap.size + 1 + 1, 0, none⟩ = some (.int .u8 3) := blk_cell hk127 0; have hd1 : w7.cell? ⟨w.heap.size + 1 + 1, 1, none⟩ = some (.string a0) := blk_cell hk127 1; have hd2 : w7.cell? ⟨w.heap.size + 1 + 1, 2, none⟩ = some (.slice A3 row.length c3) := blk_cell hk127 2; have he0 : w7.cell? ⟨w.heap.size + 1, 0, none⟩ = some (.int .u8 0) := blk_cell hk107 0; have he1 : w7.cell? ⟨w.heap.size + 1, 1, none⟩ = some (.string ⟨#[]⟩) := blk_cell hk107 1; have he2 : w7.cell? ⟨w.heap.size + 1, 2, none⟩ = some (.slice none 0 0) := blk_cell hk107 2; have hf0 := blk_frozen hk107 0; have hf1 := blk_frozen hk107 1; have hf2 := blk_frozen hk107 2; have HK127 := Aside0.mk hk127; clear hb hk127 hk107)
     refine bodyPost_ret (results_ct rfl _ _ (w.heap.size + 1) 27 #[.int .u8 3, .string a0, .slice A3 row.length c3] (0, 0) _ rfl (by refine blk_put (cs := #[.int .u8 3, .string a0, .slice none 0 0]) ?_ 2 _ rfl; refine blk_put (cs := #[.int .u8 3, .string ⟨#[]⟩, .slice none 0 0]) ?_ 1 _ rfl; refine blk_put (cs := #[.int .u8 0, .string ⟨#[]⟩, .slice none 0 0]) ?_ 0 _ rfl; exact HK107.out) Tryd.underlying27 rfl (by kernel_rfl)) rfl ?_
     obtain ⟨rfl, rfl, rfl, rfl⟩ := HE.out
     exact ⟨_, rfl, Kd.R_mono (Kd.R_far (p := ⟨w.heap.size + 1, 2, none⟩) (Kd.R_far (p := ⟨w.heap.size + 1, 1, none⟩) (Kd.R_far (p := ⟨w.heap.size + 1, 0, none⟩) (Kd.R_types HAT7.out.1 HK107.out (by decide)) (fun _ hk => hk.2) (.int .u8 3)) (fun _ hk => hk.2) (.string a0)) (fun _ hk => hk.2) (.slice A3 row.length c3)) (fun _ hk => trivial), by repeat (first | exact HB7.out | refine below_set ?_ (by omega))⟩
def cmd_Mail.f (a0 : ByteArray) (b0 b1 b2 b3 b4 b5 : Bool) (b6 a2 : Int) (a3 : Bool) (a4 : ByteArray) : Option (Int × ByteArray × List S49 × Int) :=
 if a4.size ≤ 140737488351232 then (code_Show.f a2).bind fun n => (cmd_May.f 1 3 a0 (mailRow b5 b2 b3 a3 n a4)).bind fun rr => some (if (decide (a2 < 0) || !a4.data.toList.all idByte || decide (32 < (a4.size : Int)) || !rr) = true then (0, ⟨#[]⟩, [], 4) else (3, a0, mailRow b5 b2 b3 a3 n a4, 0)) else none
theorem cmd_Mail.calls (a0 : ByteArray) (a1_0 a1_1 a1_2 a1_3 a1_4 a1_5 : Bool) (a1_6 a2 : Int) (a3 : Bool) (a4 : ByteArray) (r1 : Int) (r2 : ByteArray) (r3 : List S49) (r4 : Int) (w : World) (h : cmd_Mail.f a0 a1_0 a1_1 a1_2 a1_3 a1_4 a1_5 a1_6 a2 a3 a4 = some (r1, r2, r3, r4)) (hG : GL w) :
  Calls Tryd.prog 8 #[.string a0, .agg #[.bool a1_0, .bool a1_1, .bool a1_2, .bool a1_3, .bool a1_4, .bool a1_5, .int .i64 a1_6], .int .i64 a2, .bool a3, .string a4] w fun e w' => ∃ v2_ : Value, e = .returned (.tuple #[.agg #[.int .u8 r1, .string r2, v2_], .int .i64 r4]) ∧ Kd.R k49 49 w' w.heap.size (fun _ => True) v2_ r3 ∧ Below w.heap.size w w' := by
 unfold cmd_Mail.f at h
 split at h
 ·rename_i hs
  obtain ⟨n, hn, h⟩ := Option.bind_eq_some_iff.1 h
  obtain ⟨rr, hrr, h⟩ := Option.bind_eq_some_iff.1 h
  exact mail_walk a0 a1_0 a1_1 a1_2 a1_3 a1_4 a1_5 a1_6 a2 a3 a4 n w hG hn hs rr hrr r1 r2 r3 r4 (Option.some.inj h)
 ·simp at h
end Go.Proofs.YtljkopbalejcgaaDoor.P
end
section
namespace Go.Proofs.YtljkopbalejcgaaDoor.P
open Go.RowKit Go.Proofs.YtljkopbalejcgaaDoorW.PrintWords Go.Proofs.YtljkopbalejcgaaDoorW.PrintLast Go.Proofs.YtljkopbalejcgaaDoorW.PrintMore
attribute [local go_sem] max2_int min2_int max_two min_two max_three min_three max_four min_four
set_option linter.unusedVariables false
set_option linter.unusedSimpArgs false
def mailroomlaw07_awake.j0 : Nat → Int → Bool → Int → ByteArray → List (S49) → Option (Bool)
 | 0, _, _, _, _, _ => none
 | k + 1, x2, x36, x150000, x150001, x150002 => if x36 = true then (some false) else (if x2 = 0 then (if x150000 = 1 then (if x150001.toList = ([109, 120, 46, 101, 120, 97, 109, 112, 108, 101] : List UInt8) then (if (x150002.length : Int) = 0 then ((mailroomlaw07_wrong.f (⟨#[77, 65, 73, 76, 32, 70, 82, 79, 77, 58, 32, 60, 97, 64, 98, 46, 99, 62]⟩ : ByteArray)).bind fun t185 => (if t185 = 4 then ((mailroomlaw07_wrong.f (⟨#[68, 65, 84, 65, 32]⟩ : ByteArray)).bind fun t186 => (if t186 = 4 then ((mailroomlaw07_wrong.f (⟨#[82, 67, 80, 84, 32, 84, 79, 58, 60, 62]⟩ : ByteArray)).bind fun t187 => (some (t187 == 4))) else (some false))) else (some false))) else (some false)) else (some false)) else (some false)) else (some false))
def mailroomlaw07_awake.f (k : Nat)  : Option (Bool) := (cmd_Parse.f (⟨#[101, 104, 108, 111, 32, 109, 120, 46, 101, 120, 97, 109, 112, 108, 101]⟩ : ByteArray)).bind fun bt143 => ((mailroomlaw07_all.f).bind fun bt150 => ((cmd_Mail.f (⟨#[97, 64, 98, 46, 99]⟩ : ByteArray) bt150.1 bt150.2.1 bt150.2.2.1 bt150.2.2.2.1 bt150.2.2.2.2.1 bt150.2.2.2.2.2.1 bt150.2.2.2.2.2.2 100 true (⟨#[120]⟩ : ByteArray)).bind fun bt157 => ((mailroomlaw07_shown.f bt157.1 bt157.2.1 bt157.2.2.1 bt157.2.2.2).bind fun t163 => (if t163.toList = ([77, 65, 73, 76, 32, 70, 82, 79, 77, 58, 60, 97, 64, 98, 46, 99, 62, 32, 83, 73, 90, 69, 61, 49, 48, 48, 32, 82, 69, 81, 85, 73, 82, 69, 84, 76, 83, 32, 69, 78, 86, 73, 68, 61, 120] : List UInt8) then ((cmd_Mail.f (⟨#[97, 64, 98, 46, 99]⟩ : ByteArray) false false false false false false 0 100 true (⟨#[120]⟩ : ByteArray)).bind fun bt164 => ((mailroomlaw07_shown.f bt164.1 bt164.2.1 bt164.2.2.1 bt164.2.2.2).bind fun t170 => (if t170.toList = ([77, 65, 73, 76, 32, 70, 82, 79, 77, 58, 60, 97, 64, 98, 46, 99, 62] : List UInt8) then ((cmd_Mail.f (⟨#[]⟩ : ByteArray) false false false false false false 0 0 false (⟨#[]⟩ : ByteArray)).bind fun bt171 => ((mailroomlaw07_shown.f bt171.1 bt171.2.1 bt171.2.2.1 bt171.2.2.2).bind fun t177 => (if t177.toList = ([77, 65, 73, 76, 32, 70, 82, 79, 77, 58, 60, 62] : List UInt8) then ((cmd_Rcpt.f k (⟨#[100, 64, 101, 46, 102]⟩ : ByteArray) false false false true false false 0 true).bind fun bt178 => ((mailroomlaw07_shown.f bt178.1 bt178.2.1 bt178.2.2.1 bt178.2.2.2).bind fun t184 => (mailroomlaw07_awake.j0 k bt143.2.2.2 (t184.toList != ([82, 67, 80, 84, 32, 84, 79, 58, 60, 100, 64, 101, 46, 102, 62, 32, 78, 79, 84, 73, 70, 89, 61, 78, 69, 86, 69, 82] : List UInt8)) bt143.1 bt143.2.1 bt143.2.2.1))) else (mailroomlaw07_awake.j0 k bt143.2.2.2 true bt143.1 bt143.2.1 bt143.2.2.1)))) else (mailroomlaw07_awake.j0 k bt143.2.2.2 true bt143.1 bt143.2.1 bt143.2.2.1)))) else (mailroomlaw07_awake.j0 k bt143.2.2.2 true bt143.1 bt143.2.1 bt143.2.2.1)))))
theorem mailroomlaw07_awake.mono_l : ∀ k, (∀ y0 y1 y2 y3 y4, LeO (mailroomlaw07_awake.j0 k y0 y1 y2 y3 y4) (mailroomlaw07_awake.j0 (k + 1) y0 y1 y2 y3 y4))
 | 0 => fun _ _ _ _ _ r h => by simp [mailroomlaw07_awake.j0] at h
 | k + 1 => by
  have ih0 := mailroomlaw07_awake.mono_l k
  ·intro y0 y1 y2 y3 y4
   unfold mailroomlaw07_awake.j0
   repeat' first
   | (with_reducible exact ih0 _ _ _ _ _)
   | (with_reducible exact cmd_Rcpt.mono _ _ _ _ _ _ _ _ _ _)
   | (with_reducible exact LeO.refl _)
   | (with_reducible exact LeO.none _)
   | (with_reducible refine LeO.ite ?_ ?_)
   | (with_reducible refine LeO.bind ?_ (fun _ => ?_))
   | exact ih0 _ _ _ _ _
   | exact cmd_Rcpt.mono _ _ _ _ _ _ _ _ _ _
   | exact LeO.none _
   | refine LeO.ite ?_ ?_
   | refine LeO.bind ?_ (fun _ => ?_)
theorem mailroomlaw07_awake.mono : ∀ k, LeO (mailroomlaw07_awake.f k ) (mailroomlaw07_awake.f (k + 1) ) := by
 intro  k
 have ih0 := mailroomlaw07_awake.mono_l k
 unfold mailroomlaw07_awake.f
 repeat' first
   | (with_reducible exact ih0 _ _ _ _ _)
   | (with_reducible exact cmd_Rcpt.mono _ _ _ _ _ _ _ _ _ _)
   | (with_reducible exact LeO.refl _)
   | (with_reducible exact LeO.none _)
   | (with_reducible refine LeO.ite ?_ ?_)
   | (with_reducible refine LeO.bind ?_ (fun _ => ?_))
   | exact ih0 _ _ _ _ _
   | exact cmd_Rcpt.mono _ _ _ _ _ _ _ _ _ _
   | exact LeO.none _
   | refine LeO.ite ?_ ?_
   | refine LeO.bind ?_ (fun _ => ?_)
set_option maxHeartbeats 8000000 in
set_option maxRecDepth 100000 in
theorem mailroomlaw07_awake.calls (k : Nat)  (r : Bool) (w : World) (h : mailroomlaw07_awake.f k  = some r) (hG : GL w) :
  Calls Tryd.prog 7 #[] w fun e w' => e = .returned (.bool r) ∧ Below w.heap.size w w' := by
 have hu27 := Tryd.underlying27
 have hu23 := Tryd.underlying23
 have HB := Aside0.mk (Below.refl w.heap.size w)
 have H : ((cmd_Parse.f (⟨#[101, 104, 108, 111, 32, 109, 120, 46, 101, 120, 97, 109, 112, 108, 101]⟩ : ByteArray)).bind fun bt143 => ((mailroomlaw07_all.f).bind fun bt150 => ((cmd_Mail.f (⟨#[97, 64, 98, 46, 99]⟩ : ByteArray) bt150.1 bt150.2.1 bt150.2.2.1 bt150.2.2.2.1 bt150.2.2.2.2.1 bt150.2.2.2.2.2.1 bt150.2.2.2.2.2.2 100 true (⟨#[120]⟩ : ByteArray)).bind fun bt157 => ((mailroomlaw07_shown.f bt157.1 bt157.2.1 bt157.2.2.1 bt157.2.2.2).bind fun t163 => (if t163.toList = ([77, 65, 73, 76, 32, 70, 82, 79, 77, 58, 60, 97, 64, 98, 46, 99, 62, 32, 83, 73, 90, 69, 61, 49, 48, 48, 32, 82, 69, 81, 85, 73, 82, 69, 84, 76, 83, 32, 69, 78, 86, 73, 68, 61, 120] : List UInt8) then ((cmd_Mail.f (⟨#[97, 64, 98, 46, 99]⟩ : ByteArray) false false false false false false 0 100 true (⟨#[120]⟩ : ByteArray)).bind fun bt164 => ((mailroomlaw07_shown.f bt164.1 bt164.2.1 bt164.2.2.1 bt164.2.2.2).bind fun t170 => (if t170.toList = ([77, 65, 73, 76, 32, 70, 82, 79, 77, 58, 60, 97, 64, 98, 46, 99, 62] : List UInt8) then ((cmd_Mail.f (⟨#[]⟩ : ByteArray) false false false false false false 0 0 false (⟨#[]⟩ : ByteArray)).bind fun bt171 => ((mailroomlaw07_shown.f bt171.1 bt171.2.1 bt171.2.2.1 bt171.2.2.2).bind fun t177 => (if t177.toList = ([77, 65, 73, 76, 32, 70, 82, 79, 77, 58, 60, 62] : List UInt8) then ((cmd_Rcpt.f k (⟨#[100, 64, 101, 46, 102]⟩ : ByteArray) false false false true false false 0 true).bind fun bt178 => ((mailroomlaw07_shown.f bt178.1 bt178.2.1 bt178.2.2.1 bt178.2.2.2).bind fun t184 => (mailroomlaw07_awake.j0 k bt143.2.2.2 (t184.toList != ([82, 67, 80, 84, 32, 84, 79, 58, 60, 100, 64, 101, 46, 102, 62, 32, 78, 79, 84, 73, 70, 89, 61, 78, 69, 86, 69, 82] : List UInt8)) bt143.1 bt143.2.1 bt143.2.2.1))) else (mailroomlaw07_awake.j0 k bt143.2.2.2 true bt143.1 bt143.2.1 bt143.2.2.1)))) else (mailroomlaw07_awake.j0 k bt143.2.2.2 true bt143.1 bt143.2.1 bt143.2.2.1)))) else (mailroomlaw07_awake.j0 k bt143.2.2.2 true bt143.1 bt143.2.1 bt143.2.2.1)))))) = some r := h
 clear h
 replace H := Option.bind_eq_some_iff.mp H
 obtain ⟨⟨t143, t144, t145, t148⟩, A10, H⟩ := H
 replace H : ((mailroomlaw07_all.f).bind fun bt150 => ((cmd_Mail.f (⟨#[97, 64, 98, 46, 99]⟩ : ByteArray) bt150.1 bt150.2.1 bt150.2.2.1 bt150.2.2.2.1 bt150.2.2.2.2.1 bt150.2.2.2.2.2.1 bt150.2.2.2.2.2.2 100 true (⟨#[120]⟩ : ByteArray)).bind fun bt157 => ((mailroomlaw07_shown.f bt157.1 bt157.2.1 bt157.2.2.1 bt157.2.2.2).bind fun t163 => (if t163.toList = ([77, 65, 73, 76, 32, 70, 82, 79, 77, 58, 60, 97, 64, 98, 46, 99, 62, 32, 83, 73, 90, 69, 61, 49, 48, 48, 32, 82, 69, 81, 85, 73, 82, 69, 84, 76, 83, 32, 69, 78, 86, 73, 68, 61, 120] : List UInt8) then ((cmd_Mail.f (⟨#[97, 64, 98, 46, 99]⟩ : ByteArray) false false false false false false 0 100 true (⟨#[120]⟩ : ByteArray)).bind fun bt164 => ((mailroomlaw07_shown.f bt164.1 bt164.2.1 bt164.2.2.1 bt164.2.2.2).bind fun t170 => (if t170.toList = ([77, 65, 73, 76, 32, 70, 82, 79, 77, 58, 60, 97, 64, 98, 46, 99, 62] : List UInt8) then ((cmd_Mail.f (⟨#[]⟩ : ByteArray) false false false false false false 0 0 false (⟨#[]⟩ : ByteArray)).bind fun bt171 => ((mailroomlaw07_shown.f bt171.1 bt171.2.1 bt171.2.2.1 bt171.2.2.2).bind fun t177 => (if t177.toList = ([77, 65, 73, 76, 32, 70, 82, 79, 77, 58, 60, 62] : List UInt8) then ((cmd_Rcpt.f k (⟨#[100, 64, 101, 46, 102]⟩ : ByteArray) false false false true false false 0 true).bind fun bt178 => ((mailroomlaw07_shown.f bt178.1 bt178.2.1 bt178.2.2.1 bt178.2.2.2).bind fun t184 => (mailroomlaw07_awake.j0 k t148 (t184.toList != ([82, 67, 80, 84, 32, 84, 79, 58, 60, 100, 64, 101, 46, 102, 62, 32, 78, 79, 84, 73, 70, 89, 61, 78, 69, 86, 69, 82] : List UInt8)) t143 t144 t145))) else (mailroomlaw07_awake.j0 k t148 true t143 t144 t145)))) else (mailroomlaw07_awake.j0 k t148 true t143 t144 t145)))) else (mailroomlaw07_awake.j0 k t148 true t143 t144 t145))))) = some r := H
 have A1 := Aside0.mk A10
 clear A10
 have HC2 := Aside0.mk H
 clear H
 go_enter Tryd.func7, Tryd.ntmps7
 go_upto_region 2 with (first | ((with_reducible refine gate_callee (f := 14) rfl ?_); refine goesL_ (some 4) rfl rfl Tryd.func14 (by kernel_rfl) rfl #[.string (⟨#[101, 104, 108, 111, 32, 109, 120, 46, 101, 120, 97, 109, 112, 108, 101]⟩ : ByteArray)] rfl (by (try simp only [List.map_toArray, List.map_cons, List.map_nil]); first | done | rfl | (simp only [List.length_drop, List.length_take]; rfl)) ?_; (with_reducible refine (cmd_Parse.calls (⟨#[101, 104, 108, 111, 32, 109, 120, 46, 101, 120, 97, 109, 112, 108, 101]⟩ : ByteArray) t143 t144 t145 t148 _ A1.out).mono ?_); rintro e w3 ⟨v146, rfl, ho0, hb⟩; refine ⟨_, rfl, ?_⟩; have n0_ := Aside0.mk (Kd.R_lower ho0 (below_size (by repeat (first | (with_reducible first | exact HB.out | apply below_alloc | apply pw_below_drewN | apply below_drew1) | exact HB.out)))); have n1_ := Aside0.mk (below_step (by repeat (first | (with_reducible first | exact HB.out | apply below_alloc | apply pw_below_drewN | apply below_drew1) | exact HB.out)) hb); clear HB; have HO147 := n0_; have HB := n1_; clear n0_ n1_; (try clear hb); (try clear hb2); (try clear hk); (try clear hi); (try clear ho0)) | ((with_reducible refine gate_dst (N := 1) rfl ?_); (try (refine gate_guard (by rfl) ?_; dsimp only)); refine box_event ?hg (N := 1) ?hd (cs := #[.int .u8 0, .string (⟨#[]⟩ : ByteArray), .slice none 0 0]) (t := 27) ?hr ?_; (case hd => rfl); (case hg => rfl); (case hr => first | (go_simp; done) | (go_simp; rfl)); intro gb149 hg w4 hbox hb; have n0_ := Aside0.mk (Kd.R_below (by (with_reducible repeat (first | apply Kd.R_alloc | apply Kd.R_drewN | apply Kd.R_drew)); exact HO147.out) hb); have n1_ := Aside0.mk (below_step (by repeat (first | (with_reducible first | exact HB.out | apply below_alloc | apply pw_below_drewN | apply below_drew1) | exact HB.out)) hb); have n2_ := Aside0.mk (hbox); have n3_ := Aside0.mk ((by rw [hg]; exact (below_size (by repeat (first | (with_reducible first | exact HB.out | apply below_alloc | apply pw_below_drewN | apply below_drew1) | exact HB.out))) : w.heap.size ≤ gb149)); have n4_ := Aside0.mk ((by rw [hg]; exact (below_size (by repeat (first | (with_reducible first | exact HB.out | apply below_alloc | apply pw_below_drewN | apply below_drew1) | exact HB.out))) : w.heap.size ≤ gb149)); clear HO147; clear HB; have HO147 := n0_; have HB := n1_; have BK149 := n2_; have GW149 := n3_; have GE149 := n4_; clear n0_ n1_ n2_ n3_ n4_; clear hb hbox hg; have hcz5_0 : w4.cell? ⟨gb149, 0, none⟩ = some (.int .u8 0) := (blk_cell BK149.out 0).trans rfl; have hcz5_1 : w4.cell? ⟨gb149, 1, none⟩ = some (.string (⟨#[]⟩ : ByteArray)) := (blk_cell BK149.out 1).trans rfl; have hcz5_2 : w4.cell? ⟨gb149, 2, none⟩ = some (.slice none 0 0) := (blk_cell BK149.out 2).trans rfl; have hfz5_0 := blk_frozen BK149.out 0; have hfz5_1 := blk_frozen BK149.out 1; have hfz5_2 := blk_frozen BK149.out 2; obtain ⟨Ao6, co6, eo6⟩ := Kd.R_slice HO147.out; subst eo6))
 (try simp only [Act.put, List.setIfInBounds_toArray, List.set_cons_zero, List.set_cons_succ])
 go_cut [36] (fun v36 wc => ∃ (kq : Nat) (x36_1 : Bool), v36 = .bool x36_1 ∧ Aside0 (mailroomlaw07_awake.j0 kq t148 x36_1 t143 t144 t145 = some r) ∧ Aside0 (kq ≤ k) ∧ Aside0 (Kd.R k49 49 wc w.heap.size (fun _ => True) (.slice Ao6 t145.length co6) t145) ∧ Aside0 (wc.heap[gb149]? = some (.cells #[.int .u8 t143, .string t144, (.slice Ao6 t145.length co6)] 27 (0, 0))) ∧ Aside0 (Below w.heap.size w wc))
 case first =>
  have H := HC2.out
  clear HC2
  replace H := Option.bind_eq_some_iff.mp H
  obtain ⟨⟨t150, t151, t152, t153, t154, t155, t156⟩, A70, H⟩ := H
  replace H : ((cmd_Mail.f (⟨#[97, 64, 98, 46, 99]⟩ : ByteArray) t150 t151 t152 t153 t154 t155 t156 100 true (⟨#[120]⟩ : ByteArray)).bind fun bt157 => ((mailroomlaw07_shown.f bt157.1 bt157.2.1 bt157.2.2.1 bt157.2.2.2).bind fun t163 => (if t163.toList = ([77, 65, 73, 76, 32, 70, 82, 79, 77, 58, 60, 97, 64, 98, 46, 99, 62, 32, 83, 73, 90, 69, 61, 49, 48, 48, 32, 82, 69, 81, 85, 73, 82, 69, 84, 76, 83, 32, 69, 78, 86, 73, 68, 61, 120] : List UInt8) then ((cmd_Mail.f (⟨#[97, 64, 98, 46, 99]⟩ : ByteArray) false false false false false false 0 100 true (⟨#[120]⟩ : ByteArray)).bind fun bt164 => ((mailroomlaw07_shown.f bt164.1 bt164.2.1 bt164.2.2.1 bt164.2.2.2).bind fun t170 => (if t170.toList = ([77, 65, 73, 76, 32, 70, 82, 79, 77, 58, 60, 97, 64, 98, 46, 99, 62] : List UInt8) then ((cmd_Mail.f (⟨#[]⟩ : ByteArray) false false false false false false 0 0 false (⟨#[]⟩ : ByteArray)).bind fun bt171 => ((mailroomlaw07_shown.f bt171.1 bt171.2.1 bt171.2.2.1 bt171.2.2.2).bind fun t177 => (if t177.toList = ([77, 65, 73, 76, 32, 70, 82, 79, 77, 58, 60, 62] : List UInt8) then ((cmd_Rcpt.f k (⟨#[100, 64, 101, 46, 102]⟩ : ByteArray) false false false true false false 0 true).bind fun bt178 => ((mailroomlaw07_shown.f bt178.1 bt178.2.1 bt178.2.2.1 bt178.2.2.2).bind fun t184 => (mailroomlaw07_awake.j0 k t148 (t184.toList != ([82, 67, 80, 84, 32, 84, 79, 58, 60, 100, 64, 101, 46, 102, 62, 32, 78, 79, 84, 73, 70, 89, 61, 78, 69, 86, 69, 82] : List UInt8)) t143 t144 t145))) else (mailroomlaw07_awake.j0 k t148 true t143 t144 t145)))) else (mailroomlaw07_awake.j0 k t148 true t143 t144 t145)))) else (mailroomlaw07_awake.j0 k t148 true t143 t144 t145)))) = some r := H
  have A7 := Aside0.mk A70
  clear A70
  replace H := Option.bind_eq_some_iff.mp H
  obtain ⟨⟨t157, t158, t159, t162⟩, A80, H⟩ := H
  replace H : ((mailroomlaw07_shown.f t157 t158 t159 t162).bind fun t163 => (if t163.toList = ([77, 65, 73, 76, 32, 70, 82, 79, 77, 58, 60, 97, 64, 98, 46, 99, 62, 32, 83, 73, 90, 69, 61, 49, 48, 48, 32, 82, 69, 81, 85, 73, 82, 69, 84, 76, 83, 32, 69, 78, 86, 73, 68, 61, 120] : List UInt8) then ((cmd_Mail.f (⟨#[97, 64, 98, 46, 99]⟩ : ByteArray) false false false false false false 0 100 true (⟨#[120]⟩ : ByteArray)).bind fun bt164 => ((mailroomlaw07_shown.f bt164.1 bt164.2.1 bt164.2.2.1 bt164.2.2.2).bind fun t170 => (if t170.toList = ([77, 65, 73, 76, 32, 70, 82, 79, 77, 58, 60, 97, 64, 98, 46, 99, 62] : List UInt8) then ((cmd_Mail.f (⟨#[]⟩ : ByteArray) false false false false false false 0 0 false (⟨#[]⟩ : ByteArray)).bind fun bt171 => ((mailroomlaw07_shown.f bt171.1 bt171.2.1 bt171.2.2.1 bt171.2.2.2).bind fun t177 => (if t177.toList = ([77, 65, 73, 76, 32, 70, 82, 79, 77, 58, 60, 62] : List UInt8) then ((cmd_Rcpt.f k (⟨#[100, 64, 101, 46, 102]⟩ : ByteArray) false false false true false false 0 true).bind fun bt178 => ((mailroomlaw07_shown.f bt178.1 bt178.2.1 bt178.2.2.1 bt178.2.2.2).bind fun t184 => (mailroomlaw07_awake.j0 k t148 (t184.toList != ([82, 67, 80, 84, 32, 84, 79, 58, 60, 100, 64, 101, 46, 102, 62, 32, 78, 79, 84, 73, 70, 89, 61, 78, 69, 86, 69, 82] : List UInt8)) t143 t144 t145))) else (mailroomlaw07_awake.j0 k t148 true t143 t144 t145)))) else (mailroomlaw07_awake.j0 k t148 true t143 t144 t145)))) else (mailroomlaw07_awake.j0 k t148 true t143 t144 t145))) = some r := H
  have A8 := Aside0.mk A80
  clear A80
  replace H := Option.bind_eq_some_iff.mp H
  obtain ⟨t163, A90, H⟩ := H
  replace H : (if t163.toList = ([77, 65, 73, 76, 32, 70, 82, 79, 77, 58, 60, 97, 64, 98, 46, 99, 62, 32, 83, 73, 90, 69, 61, 49, 48, 48, 32, 82, 69, 81, 85, 73, 82, 69, 84, 76, 83, 32, 69, 78, 86, 73, 68, 61, 120] : List UInt8) then ((cmd_Mail.f (⟨#[97, 64, 98, 46, 99]⟩ : ByteArray) false false false false false false 0 100 true (⟨#[120]⟩ : ByteArray)).bind fun bt164 => ((mailroomlaw07_shown.f bt164.1 bt164.2.1 bt164.2.2.1 bt164.2.2.2).bind fun t170 => (if t170.toList = ([77, 65, 73, 76, 32, 70, 82, 79, 77, 58, 60, 97, 64, 98, 46, 99, 62] : List UInt8) then ((cmd_Mail.f (⟨#[]⟩ : ByteArray) false false false false false false 0 0 false (⟨#[]⟩ : ByteArray)).bind fun bt171 => ((mailroomlaw07_shown.f bt171.1 bt171.2.1 bt171.2.2.1 bt171.2.2.2).bind fun t177 => (if t177.toList = ([77, 65, 73, 76, 32, 70, 82, 79, 77, 58, 60, 62] : List UInt8) then ((cmd_Rcpt.f k (⟨#[100, 64, 101, 46, 102]⟩ : ByteArray) false false false true false false 0 true).bind fun bt178 => ((mailroomlaw07_shown.f bt178.1 bt178.2.1 bt178.2.2.1 bt178.2.2.2).bind fun t184 => (mailroomlaw07_awake.j0 k t148 (t184.toList != ([82, 67, 80, 84, 32, 84, 79, 58, 60, 100, 64, 101, 46, 102, 62, 32, 78, 79, 84, 73, 70, 89, 61, 78, 69, 86, 69, 82] : List UInt8)) t143 t144 t145))) else (mailroomlaw07_awake.j0 k t148 true t143 t144 t145)))) else (mailroomlaw07_awake.j0 k t148 true t143 t144 t145)))) else (mailroomlaw07_awake.j0 k t148 true t143 t144 t145)) = some r := H
  have A9 := Aside0.mk A90
  clear A90
  by_cases c10 : t163.toList = ([77, 65, 73, 76, 32, 70, 82, 79, 77, 58, 60, 97, 64, 98, 46, 99, 62, 32, 83, 73, 90, 69, 61, 49, 48, 48, 32, 82, 69, 81, 85, 73, 82, 69, 84, 76, 83, 32, 69, 78, 86, 73, 68, 61, 120] : List UInt8)
  ·rw [if_pos c10] at H
   have c10b0 : (t163.toList == ([77, 65, 73, 76, 32, 70, 82, 79, 77, 58, 60, 97, 64, 98, 46, 99, 62, 32, 83, 73, 90, 69, 61, 49, 48, 48, 32, 82, 69, 81, 85, 73, 82, 69, 84, 76, 83, 32, 69, 78, 86, 73, 68, 61, 120] : List UInt8)) = true := beq_iff_eq.mpr c10
   have c10b1 : (t163.toList != ([77, 65, 73, 76, 32, 70, 82, 79, 77, 58, 60, 97, 64, 98, 46, 99, 62, 32, 83, 73, 90, 69, 61, 49, 48, 48, 32, 82, 69, 81, 85, 73, 82, 69, 84, 76, 83, 32, 69, 78, 86, 73, 68, 61, 120] : List UInt8)) = false := bne_eq_false_iff_eq.mpr c10
   clear c10
   (first | rw [c10b0] | (simp only [i64_w, i32_w]; rw [c10b0]) | skip)
   replace H := Option.bind_eq_some_iff.mp H
   obtain ⟨⟨t164, t165, t166, t169⟩, A110, H⟩ := H
   replace H : ((mailroomlaw07_shown.f t164 t165 t166 t169).bind fun t170 => (if t170.toList = ([77, 65, 73, 76, 32, 70, 82, 79, 77, 58, 60, 97, 64, 98, 46, 99, 62] : List UInt8) then ((cmd_Mail.f (⟨#[]⟩ : ByteArray) false false false false false false 0 0 false (⟨#[]⟩ : ByteArray)).bind fun bt171 => ((mailroomlaw07_shown.f bt171.1 bt171.2.1 bt171.2.2.1 bt171.2.2.2).bind fun t177 => (if t177.toList = ([77, 65, 73, 76, 32, 70, 82, 79, 77, 58, 60, 62] : List UInt8) then ((cmd_Rcpt.f k (⟨#[100, 64, 101, 46, 102]⟩ : ByteArray) false false false true false false 0 true).bind fun bt178 => ((mailroomlaw07_shown.f bt178.1 bt178.2.1 bt178.2.2.1 bt178.2.2.2).bind fun t184 => (mailroomlaw07_awake.j0 k t148 (t184.toList != ([82, 67, 80, 84, 32, 84, 79, 58, 60, 100, 64, 101, 46, 102, 62, 32, 78, 79, 84, 73, 70, 89, 61, 78, 69, 86, 69, 82] : List UInt8)) t143 t144 t145))) else (mailroomlaw07_awake.j0 k t148 true t143 t144 t145)))) else (mailroomlaw07_awake.j0 k t148 true t143 t144 t145))) = some r := H
   have A11 := Aside0.mk A110
   clear A110
   replace H := Option.bind_eq_some_iff.mp H
   obtain ⟨t170, A120, H⟩ := H
   replace H : (if t170.toList = ([77, 65, 73, 76, 32, 70, 82, 79, 77, 58, 60, 97, 64, 98, 46, 99, 62] : List UInt8) then ((cmd_Mail.f (⟨#[]⟩ : ByteArray) false false false false false false 0 0 false (⟨#[]⟩ : ByteArray)).bind fun bt171 => ((mailroomlaw07_shown.f bt171.1 bt171.2.1 bt171.2.2.1 bt171.2.2.2).bind fun t177 => (if t177.toList = ([77, 65, 73, 76, 32, 70, 82, 79, 77, 58, 60, 62] : List UInt8) then ((cmd_Rcpt.f k (⟨#[100, 64, 101, 46, 102]⟩ : ByteArray) false false false true false false 0 true).bind fun bt178 => ((mailroomlaw07_shown.f bt178.1 bt178.2.1 bt178.2.2.1 bt178.2.2.2).bind fun t184 => (mailroomlaw07_awake.j0 k t148 (t184.toList != ([82, 67, 80, 84, 32, 84, 79, 58, 60, 100, 64, 101, 46, 102, 62, 32, 78, 79, 84, 73, 70, 89, 61, 78, 69, 86, 69, 82] : List UInt8)) t143 t144 t145))) else (mailroomlaw07_awake.j0 k t148 true t143 t144 t145)))) else (mailroomlaw07_awake.j0 k t148 true t143 t144 t145)) = some r := H
   have A12 := Aside0.mk A120
   clear A120
   by_cases c13 : t170.toList = ([77, 65, 73, 76, 32, 70, 82, 79, 77, 58, 60, 97, 64, 98, 46, 99, 62] : List UInt8)
   ·rw [if_pos c13] at H
    have c13b0 : (t170.toList == ([77, 65, 73, 76, 32, 70, 82, 79, 77, 58, 60, 97, 64, 98, 46, 99, 62] : List UInt8)) = true := beq_iff_eq.mpr c13
    have c13b1 : (t170.toList != ([77, 65, 73, 76, 32, 70, 82, 79, 77, 58, 60, 97, 64, 98, 46, 99, 62] : List UInt8)) = false := bne_eq_false_iff_eq.mpr c13
    clear c13
    replace H := Option.bind_eq_some_iff.mp H
    obtain ⟨⟨t171, t172, t173, t176⟩, A140, H⟩ := H
    replace H : ((mailroomlaw07_shown.f t171 t172 t173 t176).bind fun t177 => (if t177.toList = ([77, 65, 73, 76, 32, 70, 82, 79, 77, 58, 60, 62] : List UInt8) then ((cmd_Rcpt.f k (⟨#[100, 64, 101, 46, 102]⟩ : ByteArray) false false false true false false 0 true).bind fun bt178 => ((mailroomlaw07_shown.f bt178.1 bt178.2.1 bt178.2.2.1 bt178.2.2.2).bind fun t184 => (mailroomlaw07_awake.j0 k t148 (t184.toList != ([82, 67, 80, 84, 32, 84, 79, 58, 60, 100, 64, 101, 46, 102, 62, 32, 78, 79, 84, 73, 70, 89, 61, 78, 69, 86, 69, 82] : List UInt8)) t143 t144 t145))) else (mailroomlaw07_awake.j0 k t148 true t143 t144 t145))) = some r := H
    have A14 := Aside0.mk A140
    clear A140
    replace H := Option.bind_eq_some_iff.mp H
    obtain ⟨t177, A150, H⟩ := H
    replace H : (if t177.toList = ([77, 65, 73, 76, 32, 70, 82, 79, 77, 58, 60, 62] : List UInt8) then ((cmd_Rcpt.f k (⟨#[100, 64, 101, 46, 102]⟩ : ByteArray) false false false true false false 0 true).bind fun bt178 => ((mailroomlaw07_shown.f bt178.1 bt178.2.1 bt178.2.2.1 bt178.2.2.2).bind fun t184 => (mailroomlaw07_awake.j0 k t148 (t184.toList != ([82, 67, 80, 84, 32, 84, 79, 58, 60, 100, 64, 101, 46, 102, 62, 32, 78, 79, 84, 73, 70, 89, 61, 78, 69, 86, 69, 82] : List UInt8)) t143 t144 t145))) else (mailroomlaw07_awake.j0 k t148 true t143 t144 t145)) = some r := H
    have A15 := Aside0.mk A150
    clear A150
    by_cases c16 : t177.toList = ([77, 65, 73, 76, 32, 70, 82, 79, 77, 58, 60, 62] : List UInt8)
    ·rw [if_pos c16] at H
     have c16b0 : (t177.toList == ([77, 65, 73, 76, 32, 70, 82, 79, 77, 58, 60, 62] : List UInt8)) = true := beq_iff_eq.mpr c16
     have c16b1 : (t177.toList != ([77, 65, 73, 76, 32, 70, 82, 79, 77, 58, 60, 62] : List UInt8)) = false := bne_eq_false_iff_eq.mpr c16
     clear c16
     replace H := Option.bind_eq_some_iff.mp H
     obtain ⟨⟨t178, t179, t180, t183⟩, A170, H⟩ := H
     replace H : ((mailroomlaw07_shown.f t178 t179 t180 t183).bind fun t184 => (mailroomlaw07_awake.j0 k t148 (t184.toList != ([82, 67, 80, 84, 32, 84, 79, 58, 60, 100, 64, 101, 46, 102, 62, 32, 78, 79, 84, 73, 70, 89, 61, 78, 69, 86, 69, 82] : List UInt8)) t143 t144 t145)) = some r := H
     have A17 := Aside0.mk A170
     clear A170
     replace H := Option.bind_eq_some_iff.mp H
     obtain ⟨t184, A180, H⟩ := H
     replace H : (mailroomlaw07_awake.j0 k t148 (t184.toList != ([82, 67, 80, 84, 32, 84, 79, 58, 60, 100, 64, 101, 46, 102, 62, 32, 78, 79, 84, 73, 70, 89, 61, 78, 69, 86, 69, 82] : List UInt8)) t143 t144 t145) = some r := H
     have A18 := Aside0.mk A180
     clear A180
     have H' := Aside0.mk H
     clear H
     go_wp2_with (first | ((with_reducible refine gate_callee (f := 21) rfl ?_); refine goesL_ (some 7) rfl rfl Tryd.func21 (by kernel_rfl) rfl #[] rfl (by (try simp only [List.map_toArray, List.map_cons, List.map_nil]); first | done | rfl | (simp only [List.length_drop, List.length_take]; rfl)) ?_; (with_reducible refine (mailroomlaw07_all.calls  t150 t151 t152 t153 t154 t155 t156 _ A7.out).mono ?_); rintro e w19 ⟨rfl, hb⟩; refine ⟨_, rfl, ?_⟩; have n0_ := Aside0.mk (Kd.R_below (by (with_reducible repeat (first | apply Kd.R_alloc | apply Kd.R_drewN | apply Kd.R_drew)); exact (Kd.R_mono (Kd.R_far (p := ⟨gb149, 2, none⟩) (Kd.R_far (p := ⟨gb149, 1, none⟩) (Kd.R_far (p := ⟨gb149, 0, none⟩) (Kd.R_types HO147.out BK149.out (by decide)) (fun _ hk => hk.2) (.int .u8 t143)) (fun _ hk => hk.2) (.string t144)) (fun _ hk => hk.2) (.slice Ao6 t145.length co6)) (fun _ h_ => h_.1))) hb); have n1_ := Aside0.mk (blk_below (g := gb149) (o := .cells #[.int .u8 t143, .string t144, .slice Ao6 t145.length co6] 27 (0, 0)) (by (with_reducible repeat (first | refine blk_drewN ?_ _ | refine blk_drew ?_ | refine blk_alloc ?_ _)); refine blk_put (cs := #[.int .u8 t143, .string t144, .slice none 0 0]) ?_ 2 _ rfl; (with_reducible repeat (first | refine blk_drewN ?_ _ | refine blk_drew ?_ | refine blk_alloc ?_ _)); refine blk_put (cs := #[.int .u8 t143, .string (⟨#[]⟩ : ByteArray), .slice none 0 0]) ?_ 1 _ rfl; (with_reducible repeat (first | refine blk_drewN ?_ _ | refine blk_drew ?_ | refine blk_alloc ?_ _)); refine blk_put (cs := #[.int .u8 0, .string (⟨#[]⟩ : ByteArray), .slice none 0 0]) ?_ 0 _ rfl; (with_reducible repeat (first | refine blk_drewN ?_ _ | refine blk_drew ?_ | refine blk_alloc ?_ _)); exact BK149.out) hb); have n2_ := Aside0.mk (below_step (by repeat (first | (with_reducible first | exact HB.out | apply below_alloc | apply pw_below_drewN | apply below_drew1 | refine below_set ?_ GE149.out) | exact HB.out)) hb); clear HO147; clear BK149; clear HB; have HO147 := n0_; have BK149 := n1_; have HB := n2_; clear n0_ n1_ n2_; (try clear hb); (try clear hb2); (try clear hk); (try clear hi)) | ((with_reducible refine gate_callee (f := 8) rfl ?_); refine goesL_ (some 8) rfl rfl Tryd.func8 (by kernel_rfl) rfl #[.string (⟨#[97, 64, 98, 46, 99]⟩ : ByteArray), .agg #[.bool t150, .bool t151, .bool t152, .bool t153, .bool t154, .bool t155, .int .i64 t156], .int .i64 100, .bool true, .string (⟨#[120]⟩ : ByteArray)] rfl (by (try simp only [List.map_toArray, List.map_cons, List.map_nil]); first | done | rfl | (simp only [List.length_drop, List.length_take]; rfl)) ?_; (with_reducible refine (cmd_Mail.calls (⟨#[97, 64, 98, 46, 99]⟩ : ByteArray) t150 t151 t152 t153 t154 t155 t156 100 true (⟨#[120]⟩ : ByteArray) t157 t158 t159 t162 _ A8.out (GL.of_below hG (by repeat (first | (with_reducible first | exact HB.out | exact Below.refl _ _ | apply below_alloc | apply pw_below_drewN | apply below_drew1) | exact HB.out | exact hb | refine below_set ?_ (by assumption))))).mono ?_); rintro e w20 ⟨v160, rfl, ho0, hb⟩; refine ⟨_, rfl, ?_⟩; have n0_ := Aside0.mk (Kd.R_elder' (by (with_reducible repeat (first | apply Kd.R_alloc | apply Kd.R_drewN | apply Kd.R_drew)); exact HO147.out) (Kd.R_base ho0) hb); have n1_ := Aside0.mk (Kd.R_lower (Kd.R_new' ho0 (Kd.R_lt (by (with_reducible repeat (first | apply Kd.R_alloc | apply Kd.R_drewN | apply Kd.R_drew)); exact HO147.out))) (below_size (by repeat (first | (with_reducible first | exact HB.out | apply below_alloc | apply pw_below_drewN | apply below_drew1 | refine below_set ?_ GE149.out) | exact HB.out)))); have n2_ := Aside0.mk (blk_below (g := gb149) (o := .cells #[.int .u8 t143, .string t144, .slice Ao6 t145.length co6] 27 (0, 0)) (by (with_reducible repeat (first | refine blk_drewN ?_ _ | refine blk_drew ?_ | refine blk_alloc ?_ _)); exact BK149.out) hb); have n3_ := Aside0.mk (below_step (by repeat (first | (with_reducible first | exact HB.out | apply below_alloc | apply pw_below_drewN | apply below_drew1 | refine below_set ?_ GE149.out) | exact HB.out)) hb); clear HO147; clear BK149; clear HB; have HO147 := n0_; have HO161 := n1_; have BK149 := n2_; have HB := n3_; clear n0_ n1_ n2_ n3_; (try clear hb); (try clear hb2); (try clear hk); (try clear hi); (try clear ho0); obtain ⟨Ao21, co21, eo21⟩ := Kd.R_slice HO161.out; subst eo21) | ((with_reducible refine gate_callee (f := 10) rfl ?_); refine goesL_ (some 11) rfl rfl Tryd.func10 (by kernel_rfl) rfl #[.agg #[.int .u8 t157, .string t158, .slice Ao21 t159.length co21], .int .i64 t162] rfl (by (try simp only [List.map_toArray, List.map_cons, List.map_nil]); first | done | rfl | (simp only [List.length_drop, List.length_take]; rfl)) ?_; (with_reducible refine (mailroomlaw07_shown.calls t157 t158 _ _ t159 t162 t163 _ ?side1 ?side2 A9.out).mono ?_); (case side1 => repeat (first | exact (Kd.R_reads' HO161.out).2.2 | (with_reducible refine Kd.C_alloc ?_ _) | (with_reducible refine Kd.C_drewN ?_ _) | (with_reducible refine Kd.C_drew ?_))); (case side2 => exact (Kd.R_reads' HO161.out).2.1); rintro e w22 ⟨rfl, hb⟩; refine ⟨_, rfl, ?_⟩; have n0_ := Aside0.mk (Kd.R_below (by (with_reducible repeat (first | apply Kd.R_alloc | apply Kd.R_drewN | apply Kd.R_drew)); exact HO147.out) hb); have n1_ := Aside0.mk (Kd.R_below (by (with_reducible repeat (first | apply Kd.R_alloc | apply Kd.R_drewN | apply Kd.R_drew)); exact HO161.out) hb); have n2_ := Aside0.mk (blk_below (g := gb149) (o := .cells #[.int .u8 t143, .string t144, .slice Ao6 t145.length co6] 27 (0, 0)) (by (with_reducible repeat (first | refine blk_drewN ?_ _ | refine blk_drew ?_ | refine blk_alloc ?_ _)); exact BK149.out) hb); have n3_ := Aside0.mk (below_step (by repeat (first | (with_reducible first | exact HB.out | apply below_alloc | apply pw_below_drewN | apply below_drew1 | refine below_set ?_ GE149.out) | exact HB.out)) hb); clear HO147; clear HO161; clear BK149; clear HB; have HO147 := n0_; have HO161 := n1_; have BK149 := n2_; have HB := n3_; clear n0_ n1_ n2_ n3_; (try clear hb); (try clear hb2); (try clear hk); (try clear hi)) | (go_at_call 8; (with_reducible refine (cmd_Mail.calls (⟨#[97, 64, 98, 46, 99]⟩ : ByteArray) false false false false false false 0 100 true (⟨#[120]⟩ : ByteArray) t164 t165 t166 t169 _ A11.out (GL.of_below hG (by repeat (first | (with_reducible first | exact HB.out | exact Below.refl _ _ | apply below_alloc | apply pw_below_drewN | apply below_drew1) | exact HB.out | exact hb | refine below_set ?_ (by assumption))))).mono ?_); rintro e w23 ⟨v167, rfl, ho0, hb⟩; have n0_ := Aside0.mk (Kd.R_elder' (by (with_reducible repeat (first | apply Kd.R_alloc | apply Kd.R_drewN | apply Kd.R_drew)); exact HO147.out) (Kd.R_base ho0) hb); have n1_ := Aside0.mk (Kd.R_elder' (by (with_reducible repeat (first | apply Kd.R_alloc | apply Kd.R_drewN | apply Kd.R_drew)); exact HO161.out) (Kd.R_base ho0) hb); have n2_ := Aside0.mk (Kd.R_lower (Kd.R_new' (Kd.R_new' ho0 (Kd.R_lt (by (with_reducible repeat (first | apply Kd.R_alloc | apply Kd.R_drewN | apply Kd.R_drew)); exact HO147.out))) (Kd.R_lt (by (with_reducible repeat (first | apply Kd.R_alloc | apply Kd.R_drewN | apply Kd.R_drew)); exact HO161.out))) (below_size (by repeat (first | (with_reducible first | exact HB.out | apply below_alloc | apply pw_below_drewN | apply below_drew1 | refine below_set ?_ GE149.out) | exact HB.out)))); have n3_ := Aside0.mk (blk_below (g := gb149) (o := .cells #[.int .u8 t143, .string t144, .slice Ao6 t145.length co6] 27 (0, 0)) (by (with_reducible repeat (first | refine blk_drewN ?_ _ | refine blk_drew ?_ | refine blk_alloc ?_ _)); exact BK149.out) hb); have n4_ := Aside0.mk (below_step (by repeat (first | (with_reducible first | exact HB.out | apply below_alloc | apply pw_below_drewN | apply below_drew1 | refine below_set ?_ GE149.out) | exact HB.out)) hb); clear HO147; clear HO161; clear BK149; clear HB; have HO147 := n0_; have HO161 := n1_; have HO168 := n2_; have BK149 := n3_; have HB := n4_; clear n0_ n1_ n2_ n3_ n4_; (try clear hb); (try clear hb2); (try clear hk); (try clear hi); (try clear ho0); obtain ⟨Ao24, co24, eo24⟩ := Kd.R_slice HO168.out; subst eo24) | (go_at_call 10; (with_reducible refine (mailroomlaw07_shown.calls t164 t165 _ _ t166 t169 t170 _ ?side1 ?side2 A12.out).mono ?_); (case side1 => repeat (first | exact (Kd.R_reads' HO168.out).2.2 | (with_reducible refine Kd.C_alloc ?_ _) | (with_reducible refine Kd.C_drewN ?_ _) | (with_reducible refine Kd.C_drew ?_))); (case side2 => exact (Kd.R_reads' HO168.out).2.1); rintro e w25 ⟨rfl, hb⟩; have n0_ := Aside0.mk (Kd.R_below (by (with_reducible repeat (first | apply Kd.R_alloc | apply Kd.R_drewN | apply Kd.R_drew)); exact HO147.out) hb); have n1_ := Aside0.mk (Kd.R_below (by (with_reducible repeat (first | apply Kd.R_alloc | apply Kd.R_drewN | apply Kd.R_drew)); exact HO161.out) hb); have n2_ := Aside0.mk (Kd.R_below (by (with_reducible repeat (first | apply Kd.R_alloc | apply Kd.R_drewN | apply Kd.R_drew)); exact HO168.out) hb); have n3_ := Aside0.mk (blk_below (g := gb149) (o := .cells #[.int .u8 t143, .string t144, .slice Ao6 t145.length co6] 27 (0, 0)) (by (with_reducible repeat (first | refine blk_drewN ?_ _ | refine blk_drew ?_ | refine blk_alloc ?_ _)); exact BK149.out) hb); have n4_ := Aside0.mk (below_step (by repeat (first | (with_reducible first | exact HB.out | apply below_alloc | apply pw_below_drewN | apply below_drew1 | refine below_set ?_ GE149.out) | exact HB.out)) hb); clear HO147; clear HO161; clear HO168; clear BK149; clear HB; have HO147 := n0_; have HO161 := n1_; have HO168 := n2_; have BK149 := n3_; have HB := n4_; clear n0_ n1_ n2_ n3_ n4_; (try clear hb); (try clear hb2); (try clear hk); (try clear hi)) | (go_at_call 8; (with_reducible refine (cmd_Mail.calls (⟨#[]⟩ : ByteArray) false false false false false false 0 0 false (⟨#[]⟩ : ByteArray) t171 t172 t173 t176 _ A14.out (GL.of_below hG (by repeat (first | (with_reducible first | exact HB.out | exact Below.refl _ _ | apply below_alloc | apply pw_below_drewN | apply below_drew1) | exact HB.out | exact hb | refine below_set ?_ (by assumption))))).mono ?_); rintro e w26 ⟨v174, rfl, ho0, hb⟩; have n0_ := Aside0.mk (Kd.R_elder' (by (with_reducible repeat (first | apply Kd.R_alloc | apply Kd.R_drewN | apply Kd.R_drew)); exact HO147.out) (Kd.R_base ho0) hb); have n1_ := Aside0.mk (Kd.R_elder' (by (with_reducible repeat (first | apply Kd.R_alloc | apply Kd.R_drewN | apply Kd.R_drew)); exact HO161.out) (Kd.R_base ho0) hb); have n2_ := Aside0.mk (Kd.R_elder' (by (with_reducible repeat (first | apply Kd.R_alloc | apply Kd.R_drewN | apply Kd.R_drew)); exact HO168.out) (Kd.R_base ho0) hb); have n3_ := Aside0.mk (Kd.R_lower (Kd.R_new' (Kd.R_new' (Kd.R_new' ho0 (Kd.R_lt (by (with_reducible repeat (first | apply Kd.R_alloc | apply Kd.R_drewN | apply Kd.R_drew)); exact HO147.out))) (Kd.R_lt (by (with_reducible repeat (first | apply Kd.R_alloc | apply Kd.R_drewN | apply Kd.R_drew)); exact HO161.out))) (Kd.R_lt (by (with_reducible repeat (first | apply Kd.R_alloc | apply Kd.R_drewN | apply Kd.R_drew)); exact HO168.out))) (below_size (by repeat (first | (with_reducible first | exact HB.out | apply below_alloc | apply pw_below_drewN | apply below_drew1 | refine below_set ?_ GE149.out) | exact HB.out)))); have n4_ := Aside0.mk (blk_below (g := gb149) (o := .cells #[.int .u8 t143, .string t144, .slice Ao6 t145.length co6] 27 (0, 0)) (by (with_reducible repeat (first | refine blk_drewN ?_ _ | refine blk_drew ?_ | refine blk_alloc ?_ _)); exact BK149.out) hb); have n5_ := Aside0.mk (below_step (by repeat (first | (with_reducible first | exact HB.out | apply below_alloc | apply pw_below_drewN | apply below_drew1 | refine below_set ?_ GE149.out) | exact HB.out)) hb); clear HO147; clear HO161; clear HO168; clear BK149; clear HB; have HO147 := n0_; have HO161 := n1_; have HO168 := n2_; have HO175 := n3_; have BK149 := n4_; have HB := n5_; clear n0_ n1_ n2_ n3_ n4_ n5_; (try clear hb); (try clear hb2); (try clear hk); (try clear hi); (try clear ho0); obtain ⟨Ao27, co27, eo27⟩ := Kd.R_slice HO175.out; subst eo27) | (go_at_call 10; (with_reducible refine (mailroomlaw07_shown.calls t171 t172 _ _ t173 t176 t177 _ ?side1 ?side2 A15.out).mono ?_); (case side1 => repeat (first | exact (Kd.R_reads' HO175.out).2.2 | (with_reducible refine Kd.C_alloc ?_ _) | (with_reducible refine Kd.C_drewN ?_ _) | (with_reducible refine Kd.C_drew ?_))); (case side2 => exact (Kd.R_reads' HO175.out).2.1); rintro e w28 ⟨rfl, hb⟩; have n0_ := Aside0.mk (Kd.R_below (by (with_reducible repeat (first | apply Kd.R_alloc | apply Kd.R_drewN | apply Kd.R_drew)); exact HO147.out) hb); have n1_ := Aside0.mk (Kd.R_below (by (with_reducible repeat (first | apply Kd.R_alloc | apply Kd.R_drewN | apply Kd.R_drew)); exact HO161.out) hb); have n2_ := Aside0.mk (Kd.R_below (by (with_reducible repeat (first | apply Kd.R_alloc | apply Kd.R_drewN | apply Kd.R_drew)); exact HO168.out) hb); have n3_ := Aside0.mk (Kd.R_below (by (with_reducible repeat (first | apply Kd.R_alloc | apply Kd.R_drewN | apply Kd.R_drew)); exact HO175.out) hb); have n4_ := Aside0.mk (blk_below (g := gb149) (o := .cells #[.int .u8 t143, .string t144, .slice Ao6 t145.length co6] 27 (0, 0)) (by (with_reducible repeat (first | refine blk_drewN ?_ _ | refine blk_drew ?_ | refine blk_alloc ?_ _)); exact BK149.out) hb); have n5_ := Aside0.mk (below_step (by repeat (first | (with_reducible first | exact HB.out | apply below_alloc | apply pw_below_drewN | apply below_drew1 | refine below_set ?_ GE149.out) | exact HB.out)) hb); clear HO147; clear HO161; clear HO168; clear HO175; clear BK149; clear HB; have HO147 := n0_; have HO161 := n1_; have HO168 := n2_; have HO175 := n3_; have BK149 := n4_; have HB := n5_; clear n0_ n1_ n2_ n3_ n4_ n5_; (try clear hb); (try clear hb2); (try clear hk); (try clear hi)) | (go_at_call 11; (with_reducible refine (cmd_Rcpt.calls k (⟨#[100, 64, 101, 46, 102]⟩ : ByteArray) false false false true false false 0 true t178 t179 t180 t183 _ A17.out).mono ?_); rintro e w29 ⟨v181, rfl, ho0, hb⟩; have n0_ := Aside0.mk (Kd.R_elder' (by (with_reducible repeat (first | apply Kd.R_alloc | apply Kd.R_drewN | apply Kd.R_drew)); exact HO147.out) (Kd.R_base ho0) hb); have n1_ := Aside0.mk (Kd.R_elder' (by (with_reducible repeat (first | apply Kd.R_alloc | apply Kd.R_drewN | apply Kd.R_drew)); exact HO161.out) (Kd.R_base ho0) hb); have n2_ := Aside0.mk (Kd.R_elder' (by (with_reducible repeat (first | apply Kd.R_alloc | apply Kd.R_drewN | apply Kd.R_drew)); exact HO168.out) (Kd.R_base ho0) hb); have n3_ := Aside0.mk (Kd.R_elder' (by (with_reducible repeat (first | apply Kd.R_alloc | apply Kd.R_drewN | apply Kd.R_drew)); exact HO175.out) (Kd.R_base ho0) hb); have n4_ := Aside0.mk (Kd.R_lower (Kd.R_new' (Kd.R_new' (Kd.R_new' (Kd.R_new' ho0 (Kd.R_lt (by (with_reducible repeat (first | apply Kd.R_alloc | apply Kd.R_drewN | apply Kd.R_drew)); exact HO147.out))) (Kd.R_lt (by (with_reducible repeat (first | apply Kd.R_alloc | apply Kd.R_drewN | apply Kd.R_drew)); exact HO161.out))) (Kd.R_lt (by (with_reducible repeat (first | apply Kd.R_alloc | apply Kd.R_drewN | apply Kd.R_drew)); exact HO168.out))) (Kd.R_lt (by (with_reducible repeat (first | apply Kd.R_alloc | apply Kd.R_drewN | apply Kd.R_drew)); exact HO175.out))) (below_size (by repeat (first | (with_reducible first | exact HB.out | apply below_alloc | apply pw_below_drewN | apply below_drew1 | refine below_set ?_ GE149.out) | exact HB.out)))); have n5_ := Aside0.mk (blk_below (g := gb149) (o := .cells #[.int .u8 t143, .string t144, .slice Ao6 t145.length co6] 27 (0, 0)) (by (with_reducible repeat (first | refine blk_drewN ?_ _ | refine blk_drew ?_ | refine blk_alloc ?_ _)); exact BK149.out) hb); have n6_ := Aside0.mk (below_step (by repeat (first | (with_reducible first | exact HB.out | apply below_alloc | apply pw_below_drewN | apply below_drew1 | refine below_set ?_ GE149.out) | exact HB.out)) hb); clear HO147; clear HO161; clear HO168; clear HO175; clear BK149; clear HB; have HO147 := n0_; have HO161 := n1_; have HO168 := n2_; have HO175 := n3_; have HO182 := n4_; have BK149 := n5_; have HB := n6_; clear n0_ n1_ n2_ n3_ n4_ n5_ n6_; (try clear hb); (try clear hb2); (try clear hk); (try clear hi); (try clear ho0); obtain ⟨Ao30, co30, eo30⟩ := Kd.R_slice HO182.out; subst eo30) | (go_at_call 10; (with_reducible refine (mailroomlaw07_shown.calls t178 t179 _ _ t180 t183 t184 _ ?side1 ?side2 A18.out).mono ?_); (case side1 => repeat (first | exact (Kd.R_reads' HO182.out).2.2 | (with_reducible refine Kd.C_alloc ?_ _) | (with_reducible refine Kd.C_drewN ?_ _) | (with_reducible refine Kd.C_drew ?_))); (case side2 => exact (Kd.R_reads' HO182.out).2.1); rintro e w31 ⟨rfl, hb⟩; have n0_ := Aside0.mk (Kd.R_below (by (with_reducible repeat (first | apply Kd.R_alloc | apply Kd.R_drewN | apply Kd.R_drew)); exact HO147.out) hb); have n1_ := Aside0.mk (Kd.R_below (by (with_reducible repeat (first | apply Kd.R_alloc | apply Kd.R_drewN | apply Kd.R_drew)); exact HO161.out) hb); have n2_ := Aside0.mk (Kd.R_below (by (with_reducible repeat (first | apply Kd.R_alloc | apply Kd.R_drewN | apply Kd.R_drew)); exact HO168.out) hb); have n3_ := Aside0.mk (Kd.R_below (by (with_reducible repeat (first | apply Kd.R_alloc | apply Kd.R_drewN | apply Kd.R_drew)); exact HO175.out) hb); have n4_ := Aside0.mk (Kd.R_below (by (with_reducible repeat (first | apply Kd.R_alloc | apply Kd.R_drewN | apply Kd.R_drew)); exact HO182.out) hb); have n5_ := Aside0.mk (blk_below (g := gb149) (o := .cells #[.int .u8 t143, .string t144, .slice Ao6 t145.length co6] 27 (0, 0)) (by (with_reducible repeat (first | refine blk_drewN ?_ _ | refine blk_drew ?_ | refine blk_alloc ?_ _)); exact BK149.out) hb); have n6_ := Aside0.mk (below_step (by repeat (first | (with_reducible first | exact HB.out | apply below_alloc | apply pw_below_drewN | apply below_drew1 | refine below_set ?_ GE149.out) | exact HB.out)) hb); clear HO147; clear HO161; clear HO168; clear HO175; clear HO182; clear BK149; clear HB; have HO147 := n0_; have HO161 := n1_; have HO168 := n2_; have HO175 := n3_; have HO182 := n4_; have BK149 := n5_; have HB := n6_; clear n0_ n1_ n2_ n3_ n4_ n5_ n6_; (try clear hb); (try clear hb2); (try clear hk); (try clear hi)))
     go_meet
     case rel => exact ⟨_, ((t184.toList != ([82, 67, 80, 84, 32, 84, 79, 58, 60, 100, 64, 101, 46, 102, 62, 32, 78, 79, 84, 73, 70, 89, 61, 78, 69, 86, 69, 82] : List UInt8))), (by first | rfl | (simp; done) | (simp [*]; done)), H', ⟨by first | omega | exact Nat.le_refl _⟩, ⟨by (with_reducible repeat (first | apply Kd.R_alloc | apply Kd.R_drewN | apply Kd.R_drew)); exact Kd.R_mono HO147.out (fun _ hk => trivial)⟩, ⟨by (with_reducible repeat (first | refine blk_drewN ?_ _ | refine blk_drew ?_ | refine blk_alloc ?_ _)); exact BK149.out⟩, ⟨by repeat (first | (with_reducible first | exact HB.out | apply below_alloc | apply pw_below_drewN | apply below_drew1 | refine below_set ?_ GE149.out) | exact HB.out)⟩⟩
    ·rw [if_neg c16] at H
     have c16b0 : (t177.toList == ([77, 65, 73, 76, 32, 70, 82, 79, 77, 58, 60, 62] : List UInt8)) = false := beq_eq_false_iff_ne.mpr c16
     have c16b1 : (t177.toList != ([77, 65, 73, 76, 32, 70, 82, 79, 77, 58, 60, 62] : List UInt8)) = true := bne_iff_ne.mpr c16
     have H' := Aside0.mk H
     clear H
     go_wp2_with (first | ((with_reducible refine gate_callee (f := 21) rfl ?_); refine goesL_ (some 7) rfl rfl Tryd.func21 (by kernel_rfl) rfl #[] rfl (by (try simp only [List.map_toArray, List.map_cons, List.map_nil]); first | done | rfl | (simp only [List.length_drop, List.length_take]; rfl)) ?_; (with_reducible refine (mailroomlaw07_all.calls  t150 t151 t152 t153 t154 t155 t156 _ A7.out).mono ?_); rintro e w32 ⟨rfl, hb⟩; refine ⟨_, rfl, ?_⟩; have n0_ := Aside0.mk (Kd.R_below (by (with_reducible repeat (first | apply Kd.R_alloc | apply Kd.R_drewN | apply Kd.R_drew)); exact (Kd.R_mono (Kd.R_far (p := ⟨gb149, 2, none⟩) (Kd.R_far (p := ⟨gb149, 1, none⟩) (Kd.R_far (p := ⟨gb149, 0, none⟩) (Kd.R_types HO147.out BK149.out (by decide)) (fun _ hk => hk.2) (.int .u8 t143)) (fun _ hk => hk.2) (.string t144)) (fun _ hk => hk.2) (.slice Ao6 t145.length co6)) (fun _ h_ => h_.1))) hb); have n1_ := Aside0.mk (blk_below (g := gb149) (o := .cells #[.int .u8 t143, .string t144, .slice Ao6 t145.length co6] 27 (0, 0)) (by (with_reducible repeat (first | refine blk_drewN ?_ _ | refine blk_drew ?_ | refine blk_alloc ?_ _)); refine blk_put (cs := #[.int .u8 t143, .string t144, .slice none 0 0]) ?_ 2 _ rfl; (with_reducible repeat (first | refine blk_drewN ?_ _ | refine blk_drew ?_ | refine blk_alloc ?_ _)); refine blk_put (cs := #[.int .u8 t143, .string (⟨#[]⟩ : ByteArray), .slice none 0 0]) ?_ 1 _ rfl; (with_reducible repeat (first | refine blk_drewN ?_ _ | refine blk_drew ?_ | refine blk_alloc ?_ _)); refine blk_put (cs := #[.int .u8 0, .string (⟨#[]⟩ : ByteArray), .slice none 0 0]) ?_ 0 _ rfl; (with_reducible repeat (first | refine blk_drewN ?_ _ | refine blk_drew ?_ | refine blk_alloc ?_ _)); exact BK149.out) hb); have n2_ := Aside0.mk (below_step (by repeat (first | (with_reducible first | exact HB.out | apply below_alloc | apply pw_below_drewN | apply below_drew1 | refine below_set ?_ GE149.out) | exact HB.out)) hb); clear HO147; clear BK149; clear HB; have HO147 := n0_; have BK149 := n1_; have HB := n2_; clear n0_ n1_ n2_; (try clear hb); (try clear hb2); (try clear hk); (try clear hi)) | ((with_reducible refine gate_callee (f := 8) rfl ?_); refine goesL_ (some 8) rfl rfl Tryd.func8 (by kernel_rfl) rfl #[.string (⟨#[97, 64, 98, 46, 99]⟩ : ByteArray), .agg #[.bool t150, .bool t151, .bool t152, .bool t153, .bool t154, .bool t155, .int .i64 t156], .int .i64 100, .bool true, .string (⟨#[120]⟩ : ByteArray)] rfl (by (try simp only [List.map_toArray, List.map_cons, List.map_nil]); first | done | rfl | (simp only [List.length_drop, List.length_take]; rfl)) ?_; (with_reducible refine (cmd_Mail.calls (⟨#[97, 64, 98, 46, 99]⟩ : ByteArray) t150 t151 t152 t153 t154 t155 t156 100 true (⟨#[120]⟩ : ByteArray) t157 t158 t159 t162 _ A8.out (GL.of_below hG (by repeat (first | (with_reducible first | exact HB.out | exact Below.refl _ _ | apply below_alloc | apply pw_below_drewN | apply below_drew1) | exact HB.out | exact hb | refine below_set ?_ (by assumption))))).mono ?_); rintro e w33 ⟨v160, rfl, ho0, hb⟩; refine ⟨_, rfl, ?_⟩; have n0_ := Aside0.mk (Kd.R_elder' (by (with_reducible repeat (first | apply Kd.R_alloc | apply Kd.R_drewN | apply Kd.R_drew)); exact HO147.out) (Kd.R_base ho0) hb); have n1_ := Aside0.mk (Kd.R_lower (Kd.R_new' ho0 (Kd.R_lt (by (with_reducible repeat (first | apply Kd.R_alloc | apply Kd.R_drewN | apply Kd.R_drew)); exact HO147.out))) (below_size (by repeat (first | (with_reducible first | exact HB.out | apply below_alloc | apply pw_below_drewN | apply below_drew1 | refine below_set ?_ GE149.out) | exact HB.out)))); have n2_ := Aside0.mk (blk_below (g := gb149) (o := .cells #[.int .u8 t143, .string t144, .slice Ao6 t145.length co6] 27 (0, 0)) (by (with_reducible repeat (first | refine blk_drewN ?_ _ | refine blk_drew ?_ | refine blk_alloc ?_ _)); exact BK149.out) hb); have n3_ := Aside0.mk (below_step (by repeat (first | (with_reducible first | exact HB.out | apply below_alloc | apply pw_below_drewN | apply below_drew1 | refine below_set ?_ GE149.out) | exact HB.out)) hb); clear HO147; clear BK149; clear HB; have HO147 := n0_; have HO161 := n1_; have BK149 := n2_; have HB := n3_; clear n0_ n1_ n2_ n3_; (try clear hb); (try clear hb2); (try clear hk); (try clear hi); (try clear ho0); obtain ⟨Ao34, co34, eo34⟩ := Kd.R_slice HO161.out; subst eo34) | ((with_reducible refine gate_callee (f := 10) rfl ?_); refine goesL_ (some 11) rfl rfl Tryd.func10 (by kernel_rfl) rfl #[.agg #[.int .u8 t157, .string t158, .slice Ao34 t159.length co34], .int .i64 t162] rfl (by (try simp only [List.map_toArray, List.map_cons, List.map_nil]); first | done | rfl | (simp only [List.length_drop, List.length_take]; rfl)) ?_; (with_reducible refine (mailroomlaw07_shown.calls t157 t158 _ _ t159 t162 t163 _ ?side1 ?side2 A9.out).mono ?_); (case side1 => repeat (first | exact (Kd.R_reads' HO161.out).2.2 | (with_reducible refine Kd.C_alloc ?_ _) | (with_reducible refine Kd.C_drewN ?_ _) | (with_reducible refine Kd.C_drew ?_))); (case side2 => exact (Kd.R_reads' HO161.out).2.1); rintro e w35 ⟨rfl, hb⟩; refine ⟨_, rfl, ?_⟩; have n0_ := Aside0.mk (Kd.R_below (by (with_reducible repeat (first | apply Kd.R_alloc | apply Kd.R_drewN | apply Kd.R_drew)); exact HO147.out) hb); have n1_ := Aside0.mk (Kd.R_below (by (with_reducible repeat (first | apply Kd.R_alloc | apply Kd.R_drewN | apply Kd.R_drew)); exact HO161.out) hb); have n2_ := Aside0.mk (blk_below (g := gb149) (o := .cells #[.int .u8 t143, .string t144, .slice Ao6 t145.length co6] 27 (0, 0)) (by (with_reducible repeat (first | refine blk_drewN ?_ _ | refine blk_drew ?_ | refine blk_alloc ?_ _)); exact BK149.out) hb); have n3_ := Aside0.mk (below_step (by repeat (first | (with_reducible first | exact HB.out | apply below_alloc | apply pw_below_drewN | apply below_drew1 | refine below_set ?_ GE149.out) | exact HB.out)) hb); clear HO147; clear HO161; clear BK149; clear HB; have HO147 := n0_; have HO161 := n1_; have BK149 := n2_; have HB := n3_; clear n0_ n1_ n2_ n3_; (try clear hb); (try clear hb2); (try clear hk); (try clear hi)) | (go_at_call 8; (with_reducible refine (cmd_Mail.calls (⟨#[97, 64, 98, 46, 99]⟩ : ByteArray) false false false false false false 0 100 true (⟨#[120]⟩ : ByteArray) t164 t165 t166 t169 _ A11.out (GL.of_below hG (by repeat (first | (with_reducible first | exact HB.out | exact Below.refl _ _ | apply below_alloc | apply pw_below_drewN | apply below_drew1) | exact HB.out | exact hb | refine below_set ?_ (by assumption))))).mono ?_); rintro e w36 ⟨v167, rfl, ho0, hb⟩; have n0_ := Aside0.mk (Kd.R_elder' (by (with_reducible repeat (first | apply Kd.R_alloc | apply Kd.R_drewN | apply Kd.R_drew)); exact HO147.out) (Kd.R_base ho0) hb); have n1_ := Aside0.mk (Kd.R_elder' (by (with_reducible repeat (first | apply Kd.R_alloc | apply Kd.R_drewN | apply Kd.R_drew)); exact HO161.out) (Kd.R_base ho0) hb); have n2_ := Aside0.mk (Kd.R_lower (Kd.R_new' (Kd.R_new' ho0 (Kd.R_lt (by (with_reducible repeat (first | apply Kd.R_alloc | apply Kd.R_drewN | apply Kd.R_drew)); exact HO147.out))) (Kd.R_lt (by (with_reducible repeat (first | apply Kd.R_alloc | apply Kd.R_drewN | apply Kd.R_drew)); exact HO161.out))) (below_size (by repeat (first | (with_reducible first | exact HB.out | apply below_alloc | apply pw_below_drewN | apply below_drew1 | refine below_set ?_ GE149.out) | exact HB.out)))); have n3_ := Aside0.mk (blk_below (g := gb149) (o := .cells #[.int .u8 t143, .string t144, .slice Ao6 t145.length co6] 27 (0, 0)) (by (with_reducible repeat (first | refine blk_drewN ?_ _ | refine blk_drew ?_ | refine blk_alloc ?_ _)); exact BK149.out) hb); have n4_ := Aside0.mk (below_step (by repeat (first | (with_reducible first | exact HB.out | apply below_alloc | apply pw_below_drewN | apply below_drew1 | refine below_set ?_ GE149.out) | exact HB.out)) hb); clear HO147; clear HO161; clear BK149; clear HB; have HO147 := n0_; have HO161 := n1_; have HO168 := n2_; have BK149 := n3_; have HB := n4_; clear n0_ n1_ n2_ n3_ n4_; (try clear hb); (try clear hb2); (try clear hk); (try clear hi); (try clear ho0); obtain ⟨Ao37, co37, eo37⟩ := Kd.R_slice HO168.out; subst eo37) | (go_at_call 10; (with_reducible refine (mailroomlaw07_shown.calls t164 t165 _ _ t166 t169 t170 _ ?side1 ?side2 A12.out).mono ?_); (case side1 => repeat (first | exact (Kd.R_reads' HO168.out).2.2 | (with_reducible refine Kd.C_alloc ?_ _) | (with_reducible refine Kd.C_drewN ?_ _) | (with_reducible refine Kd.C_drew ?_))); (case side2 => exact (Kd.R_reads' HO168.out).2.1); rintro e w38 ⟨rfl, hb⟩; have n0_ := Aside0.mk (Kd.R_below (by (with_reducible repeat (first | apply Kd.R_alloc | apply Kd.R_drewN | apply Kd.R_drew)); exact HO147.out) hb); have n1_ := Aside0.mk (Kd.R_below (by (with_reducible repeat (first | apply Kd.R_alloc | apply Kd.R_drewN | apply Kd.R_drew)); exact HO161.out) hb); have n2_ := Aside0.mk (Kd.R_below (by (with_reducible repeat (first | apply Kd.R_alloc | apply Kd.R_drewN | apply Kd.R_drew)); exact HO168.out) hb); have n3_ := Aside0.mk (blk_below (g := gb149) (o := .cells #[.int .u8 t143, .string t144, .slice Ao6 t145.length co6] 27 (0, 0)) (by (with_reducible repeat (first | refine blk_drewN ?_ _ | refine blk_drew ?_ | refine blk_alloc ?_ _)); exact BK149.out) hb); have n4_ := Aside0.mk (below_step (by repeat (first | (with_reducible first | exact HB.out | apply below_alloc | apply pw_below_drewN | apply below_drew1 | refine below_set ?_ GE149.out) | exact HB.out)) hb); clear HO147; clear HO161; clear HO168; clear BK149; clear HB; have HO147 := n0_; have HO161 := n1_; have HO168 := n2_; have BK149 := n3_; have HB := n4_; clear n0_ n1_ n2_ n3_ n4_; (try clear hb); (try clear hb2); (try clear hk); (try clear hi)) | (go_at_call 8; (with_reducible refine (cmd_Mail.calls (⟨#[]⟩ : ByteArray) false false false false false false 0 0 false (⟨#[]⟩ : ByteArray) t171 t172 t173 t176 _ A14.out (GL.of_below hG (by repeat (first | (with_reducible first | exact HB.out | exact Below.refl _ _ | apply below_alloc | apply pw_below_drewN | apply below_drew1) | exact HB.out | exact hb | refine below_set ?_ (by assumption))))).mono ?_); rintro e w39 ⟨v174, rfl, ho0, hb⟩; have n0_ := Aside0.mk (Kd.R_elder' (by (with_reducible repeat (first | apply Kd.R_alloc | apply Kd.R_drewN | apply Kd.R_drew)); exact HO147.out) (Kd.R_base ho0) hb); have n1_ := Aside0.mk (Kd.R_elder' (by (with_reducible repeat (first | apply Kd.R_alloc | apply Kd.R_drewN | apply Kd.R_drew)); exact HO161.out) (Kd.R_base ho0) hb); have n2_ := Aside0.mk (Kd.R_elder' (by (with_reducible repeat (first | apply Kd.R_alloc | apply Kd.R_drewN | apply Kd.R_drew)); exact HO168.out) (Kd.R_base ho0) hb); have n3_ := Aside0.mk (Kd.R_lower (Kd.R_new' (Kd.R_new' (Kd.R_new' ho0 (Kd.R_lt (by (with_reducible repeat (first | apply Kd.R_alloc | apply Kd.R_drewN | apply Kd.R_drew)); exact HO147.out))) (Kd.R_lt (by (with_reducible repeat (first | apply Kd.R_alloc | apply Kd.R_drewN | apply Kd.R_drew)); exact HO161.out))) (Kd.R_lt (by (with_reducible repeat (first | apply Kd.R_alloc | apply Kd.R_drewN | apply Kd.R_drew)); exact HO168.out))) (below_size (by repeat (first | (with_reducible first | exact HB.out | apply below_alloc | apply pw_below_drewN | apply below_drew1 | refine below_set ?_ GE149.out) | exact HB.out)))); have n4_ := Aside0.mk (blk_below (g := gb149) (o := .cells #[.int .u8 t143, .string t144, .slice Ao6 t145.length co6] 27 (0, 0)) (by (with_reducible repeat (first | refine blk_drewN ?_ _ | refine blk_drew ?_ | refine blk_alloc ?_ _)); exact BK149.out) hb); have n5_ := Aside0.mk (below_step (by repeat (first | (with_reducible first | exact HB.out | apply below_alloc | apply pw_below_drewN | apply below_drew1 | refine below_set ?_ GE149.out) | exact HB.out)) hb); clear HO147; clear HO161; clear HO168; clear BK149; clear HB; have HO147 := n0_; have HO161 := n1_; have HO168 := n2_; have HO175 := n3_; have BK149 := n4_; have HB := n5_; clear n0_ n1_ n2_ n3_ n4_ n5_; (try clear hb); (try clear hb2); (try clear hk); (try clear hi); (try clear ho0); obtain ⟨Ao40, co40, eo40⟩ := Kd.R_slice HO175.out; subst eo40) | (go_at_call 10; (with_reducible refine (mailroomlaw07_shown.calls t171 t172 _ _ t173 t176 t177 _ ?side1 ?side2 A15.out).mono ?_); (case side1 => repeat (first | exact (Kd.R_reads' HO175.out).2.2 | (with_reducible refine Kd.C_alloc ?_ _) | (with_reducible refine Kd.C_drewN ?_ _) | (with_reducible refine Kd.C_drew ?_))); (case side2 => exact (Kd.R_reads' HO175.out).2.1); rintro e w41 ⟨rfl, hb⟩; have n0_ := Aside0.mk (Kd.R_below (by (with_reducible repeat (first | apply Kd.R_alloc | apply Kd.R_drewN | apply Kd.R_drew)); exact HO147.out) hb); have n1_ := Aside0.mk (Kd.R_below (by (with_reducible repeat (first | apply Kd.R_alloc | apply Kd.R_drewN | apply Kd.R_drew)); exact HO161.out) hb); have n2_ := Aside0.mk (Kd.R_below (by (with_reducible repeat (first | apply Kd.R_alloc | apply Kd.R_drewN | apply Kd.R_drew)); exact HO168.out) hb); have n3_ := Aside0.mk (Kd.R_below (by (with_reducible repeat (first | apply Kd.R_alloc | apply Kd.R_drewN | apply Kd.R_drew)); exact HO175.out) hb); have n4_ := Aside0.mk (blk_below (g := gb149) (o := .cells #[.int .u8 t143, .string t144, .slice Ao6 t145.length co6] 27 (0, 0)) (by (with_reducible repeat (first | refine blk_drewN ?_ _ | refine blk_drew ?_ | refine blk_alloc ?_ _)); exact BK149.out) hb); have n5_ := Aside0.mk (below_step (by repeat (first | (with_reducible first | exact HB.out | apply below_alloc | apply pw_below_drewN | apply below_drew1 | refine below_set ?_ GE149.out) | exact HB.out)) hb); clear HO147; clear HO161; clear HO168; clear HO175; clear BK149; clear HB; have HO147 := n0_; have HO161 := n1_; have HO168 := n2_; have HO175 := n3_; have BK149 := n4_; have HB := n5_; clear n0_ n1_ n2_ n3_ n4_ n5_; (try clear hb); (try clear hb2); (try clear hk); (try clear hi)))
     go_meet
     case rel => exact ⟨_, (true), (by first | rfl | (simp; done) | (simp [*]; done)), H', ⟨by first | omega | exact Nat.le_refl _⟩, ⟨by (with_reducible repeat (first | apply Kd.R_alloc | apply Kd.R_drewN | apply Kd.R_drew)); exact Kd.R_mono HO147.out (fun _ hk => trivial)⟩, ⟨by (with_reducible repeat (first | refine blk_drewN ?_ _ | refine blk_drew ?_ | refine blk_alloc ?_ _)); exact BK149.out⟩, ⟨by repeat (first | (with_reducible first | exact HB.out | apply below_alloc | apply pw_below_drewN | apply below_drew1 | refine below_set ?_ GE149.out) | exact HB.out)⟩⟩
   ·rw [if_neg c13] at H
    have c13b0 : (t170.toList == ([77, 65, 73, 76, 32, 70, 82, 79, 77, 58, 60, 97, 64, 98, 46, 99, 62] : List UInt8)) = false := beq_eq_false_iff_ne.mpr c13
    have c13b1 : (t170.toList != ([77, 65, 73, 76, 32, 70, 82, 79, 77, 58, 60, 97, 64, 98, 46, 99, 62] : List UInt8)) = true := bne_iff_ne.mpr c13
    have H' := Aside0.mk H
    clear H
    go_wp2_with (first | ((with_reducible refine gate_callee (f := 21) rfl ?_); refine goesL_ (some 7) rfl rfl Tryd.func21 (by kernel_rfl) rfl #[] rfl (by (try simp only [List.map_toArray, List.map_cons, List.map_nil]); first | done | rfl | (simp only [List.length_drop, List.length_take]; rfl)) ?_; (with_reducible refine (mailroomlaw07_all.calls  t150 t151 t152 t153 t154 t155 t156 _ A7.out).mono ?_); rintro e w42 ⟨rfl, hb⟩; refine ⟨_, rfl, ?_⟩; have n0_ := Aside0.mk (Kd.R_below (by (with_reducible repeat (first | apply Kd.R_alloc | apply Kd.R_drewN | apply Kd.R_drew)); exact (Kd.R_mono (Kd.R_far (p := ⟨gb149, 2, none⟩) (Kd.R_far (p := ⟨gb149, 1, none⟩) (Kd.R_far (p := ⟨gb149, 0, none⟩) (Kd.R_types HO147.out BK149.out (by decide)) (fun _ hk => hk.2) (.int .u8 t143)) (fun _ hk => hk.2) (.string t144)) (fun _ hk => hk.2) (.slice Ao6 t145.length co6)) (fun _ h_ => h_.1))) hb); have n1_ := Aside0.mk (blk_below (g := gb149) (o := .cells #[.int .u8 t143, .string t144, .slice Ao6 t145.length co6] 27 (0, 0)) (by (with_reducible repeat (first | refine blk_drewN ?_ _ | refine blk_drew ?_ | refine blk_alloc ?_ _)); refine blk_put (cs := #[.int .u8 t143, .string t144, .slice none 0 0]) ?_ 2 _ rfl; (with_reducible repeat (first | refine blk_drewN ?_ _ | refine blk_drew ?_ | refine blk_alloc ?_ _)); refine blk_put (cs := #[.int .u8 t143, .string (⟨#[]⟩ : ByteArray), .slice none 0 0]) ?_ 1 _ rfl; (with_reducible repeat (first | refine blk_drewN ?_ _ | refine blk_drew ?_ | refine blk_alloc ?_ _)); refine blk_put (cs := #[.int .u8 0, .string (⟨#[]⟩ : ByteArray), .slice none 0 0]) ?_ 0 _ rfl; (with_reducible repeat (first | refine blk_drewN ?_ _ | refine blk_drew ?_ | refine blk_alloc ?_ _)); exact BK149.out) hb); have n2_ := Aside0.mk (below_step (by repeat (first | (with_reducible first | exact HB.out | apply below_alloc | apply pw_below_drewN | apply below_drew1 | refine below_set ?_ GE149.out) | exact HB.out)) hb); clear HO147; clear BK149; clear HB; have HO147 := n0_; have BK149 := n1_; have HB := n2_; clear n0_ n1_ n2_; (try clear hb); (try clear hb2); (try clear hk); (try clear hi)) | ((with_reducible refine gate_callee (f := 8) rfl ?_); refine goesL_ (some 8) rfl rfl Tryd.func8 (by kernel_rfl) rfl #[.string (⟨#[97, 64, 98, 46, 99]⟩ : ByteArray), .agg #[.bool t150, .bool t151, .bool t152, .bool t153, .bool t154, .bool t155, .int .i64 t156], .int .i64 100, .bool true, .string (⟨#[120]⟩ : ByteArray)] rfl (by (try simp only [List.map_toArray, List.map_cons, List.map_nil]); first | done | rfl | (simp only [List.length_drop, List.length_take]; rfl)) ?_; (with_reducible refine (cmd_Mail.calls (⟨#[97, 64, 98, 46, 99]⟩ : ByteArray) t150 t151 t152 t153 t154 t155 t156 100 true (⟨#[120]⟩ : ByteArray) t157 t158 t159 t162 _ A8.out (GL.of_below hG (by repeat (first | (with_reducible first | exact HB.out | exact Below.refl _ _ | apply below_alloc | apply pw_below_drewN | apply below_drew1) | exact HB.out | exact hb | refine below_set ?_ (by assumption))))).mono ?_); rintro e w43 ⟨v160, rfl, ho0, hb⟩; refine ⟨_, rfl, ?_⟩; have n0_ := Aside0.mk (Kd.R_elder' (by (with_reducible repeat (first | apply Kd.R_alloc | apply Kd.R_drewN | apply Kd.R_drew)); exact HO147.out) (Kd.R_base ho0) hb); have n1_ := Aside0.mk (Kd.R_lower (Kd.R_new' ho0 (Kd.R_lt (by (with_reducible repeat (first | apply Kd.R_alloc | apply Kd.R_drewN | apply Kd.R_drew)); exact HO147.out))) (below_size (by repeat (first | (with_reducible first | exact HB.out | apply below_alloc | apply pw_below_drewN | apply below_drew1 | refine below_set ?_ GE149.out) | exact HB.out)))); have n2_ := Aside0.mk (blk_below (g := gb149) (o := .cells #[.int .u8 t143, .string t144, .slice Ao6 t145.length co6] 27 (0, 0)) (by (with_reducible repeat (first | refine blk_drewN ?_ _ | refine blk_drew ?_ | refine blk_alloc ?_ _)); exact BK149.out) hb); have n3_ := Aside0.mk (below_step (by repeat (first | (with_reducible first | exact HB.out | apply below_alloc | apply pw_below_drewN | apply below_drew1 | refine below_set ?_ GE149.out) | exact HB.out)) hb); clear HO147; clear BK149; clear HB; have HO147 := n0_; have HO161 := n1_; have BK149 := n2_; have HB := n3_; clear n0_ n1_ n2_ n3_; (try clear hb); (try clear hb2); (try clear hk); (try clear hi); (try clear ho0); obtain ⟨Ao44, co44, eo44⟩ := Kd.R_slice HO161.out; subst eo44) | ((with_reducible refine gate_callee (f := 10) rfl ?_); refine goesL_ (some 11) rfl rfl Tryd.func10 (by kernel_rfl) rfl #[.agg #[.int .u8 t157, .string t158, .slice Ao44 t159.length co44], .int .i64 t162] rfl (by (try simp only [List.map_toArray, List.map_cons, List.map_nil]); first | done | rfl | (simp only [List.length_drop, List.length_take]; rfl)) ?_; (with_reducible refine (mailroomlaw07_shown.calls t157 t158 _ _ t159 t162 t163 _ ?side1 ?side2 A9.out).mono ?_); (case side1 => repeat (first | exact (Kd.R_reads' HO161.out).2.2 | (with_reducible refine Kd.C_alloc ?_ _) | (with_reducible refine Kd.C_drewN ?_ _) | (with_reducible refine Kd.C_drew ?_))); (case side2 => exact (Kd.R_reads' HO161.out).2.1); rintro e w45 ⟨rfl, hb⟩; refine ⟨_, rfl, ?_⟩; have n0_ := Aside0.mk (Kd.R_below (by (with_reducible repeat (first | apply Kd.R_alloc | apply Kd.R_drewN | apply Kd.R_drew)); exact HO147.out) hb); have n1_ := Aside0.mk (Kd.R_below (by (with_reducible repeat (first | apply Kd.R_alloc | apply Kd.R_drewN | apply Kd.R_drew)); exact HO161.out) hb); have n2_ := Aside0.mk (blk_below (g := gb149) (o := .cells #[.int .u8 t143, .string t144, .slice Ao6 t145.length co6] 27 (0, 0)) (by (with_reducible repeat (first | refine blk_drewN ?_ _ | refine blk_drew ?_ | refine blk_alloc ?_ _)); exact BK149.out) hb); have n3_ := Aside0.mk (below_step (by repeat (first | (with_reducible first | exact HB.out | apply below_alloc | apply pw_below_drewN | apply below_drew1 | refine below_set ?_ GE149.out) | exact HB.out)) hb); clear HO147; clear HO161; clear BK149; clear HB; have HO147 := n0_; have HO161 := n1_; have BK149 := n2_; have HB := n3_; clear n0_ n1_ n2_ n3_; (try clear hb); (try clear hb2); (try clear hk); (try clear hi)) | (go_at_call 8; (with_reducible refine (cmd_Mail.calls (⟨#[97, 64, 98, 46, 99]⟩ : ByteArray) false false false false false false 0 100 true (⟨#[120]⟩ : ByteArray) t164 t165 t166 t169 _ A11.out (GL.of_below hG (by repeat (first | (with_reducible first | exact HB.out | exact Below.refl _ _ | apply below_alloc | apply pw_below_drewN | apply below_drew1) | exact HB.out | exact hb | refine below_set ?_ (by assumption))))).mono ?_); rintro e w46 ⟨v167, rfl, ho0, hb⟩; have n0_ := Aside0.mk (Kd.R_elder' (by (with_reducible repeat (first | apply Kd.R_alloc | apply Kd.R_drewN | apply Kd.R_drew)); exact HO147.out) (Kd.R_base ho0) hb); have n1_ := Aside0.mk (Kd.R_elder' (by (with_reducible repeat (first | apply Kd.R_alloc | apply Kd.R_drewN | apply Kd.R_drew)); exact HO161.out) (Kd.R_base ho0) hb); have n2_ := Aside0.mk (Kd.R_lower (Kd.R_new' (Kd.R_new' ho0 (Kd.R_lt (by (with_reducible repeat (first | apply Kd.R_alloc | apply Kd.R_drewN | apply Kd.R_drew)); exact HO147.out))) (Kd.R_lt (by (with_reducible repeat (first | apply Kd.R_alloc | apply Kd.R_drewN | apply Kd.R_drew)); exact HO161.out))) (below_size (by repeat (first | (with_reducible first | exact HB.out | apply below_alloc | apply pw_below_drewN | apply below_drew1 | refine below_set ?_ GE149.out) | exact HB.out)))); have n3_ := Aside0.mk (blk_below (g := gb149) (o := .cells #[.int .u8 t143, .string t144, .slice Ao6 t145.length co6] 27 (0, 0)) (by (with_reducible repeat (first | refine blk_drewN ?_ _ | refine blk_drew ?_ | refine blk_alloc ?_ _)); exact BK149.out) hb); have n4_ := Aside0.mk (below_step (by repeat (first | (with_reducible first | exact HB.out | apply below_alloc | apply pw_below_drewN | apply below_drew1 | refine below_set ?_ GE149.out) | exact HB.out)) hb); clear HO147; clear HO161; clear BK149; clear HB; have HO147 := n0_; have HO161 := n1_; have HO168 := n2_; have BK149 := n3_; have HB := n4_; clear n0_ n1_ n2_ n3_ n4_; (try clear hb); (try clear hb2); (try clear hk); (try clear hi); (try clear ho0); obtain ⟨Ao47, co47, eo47⟩ := Kd.R_slice HO168.out; subst eo47) | (go_at_call 10; (with_reducible refine (mailroomlaw07_shown.calls t164 t165 _ _ t166 t169 t170 _ ?side1 ?side2 A12.out).mono ?_); (case side1 => repeat (first | exact (Kd.R_reads' HO168.out).2.2 | (with_reducible refine Kd.C_alloc ?_ _) | (with_reducible refine Kd.C_drewN ?_ _) | (with_reducible refine Kd.C_drew ?_))); (case side2 => exact (Kd.R_reads' HO168.out).2.1); rintro e w48 ⟨rfl, hb⟩; have n0_ := Aside0.mk (Kd.R_below (by (with_reducible repeat (first | apply Kd.R_alloc | apply Kd.R_drewN | apply Kd.R_drew)); exact HO147.out) hb); have n1_ := Aside0.mk (Kd.R_below (by (with_reducible repeat (first | apply Kd.R_alloc | apply Kd.R_drewN | apply Kd.R_drew)); exact HO161.out) hb); have n2_ := Aside0.mk (Kd.R_below (by (with_reducible repeat (first | apply Kd.R_alloc | apply Kd.R_drewN | apply Kd.R_drew)); exact HO168.out) hb); have n3_ := Aside0.mk (blk_below (g := gb149) (o := .cells #[.int .u8 t143, .string t144, .slice Ao6 t145.length co6] 27 (0, 0)) (by (with_reducible repeat (first | refine blk_drewN ?_ _ | refine blk_drew ?_ | refine blk_alloc ?_ _)); exact BK149.out) hb); have n4_ := Aside0.mk (below_step (by repeat (first | (with_reducible first | exact HB.out | apply below_alloc | apply pw_below_drewN | apply below_drew1 | refine below_set ?_ GE149.out) | exact HB.out)) hb); clear HO147; clear HO161; clear HO168; clear BK149; clear HB; have HO147 := n0_; have HO161 := n1_; have HO168 := n2_; have BK149 := n3_; have HB := n4_; clear n0_ n1_ n2_ n3_ n4_; (try clear hb); (try clear hb2); (try clear hk); (try clear hi)))
    go_meet
    case rel => exact ⟨_, (true), (by first | rfl | (simp; done) | (simp [*]; done)), H', ⟨by first | omega | exact Nat.le_refl _⟩, ⟨by (with_reducible repeat (first | apply Kd.R_alloc | apply Kd.R_drewN | apply Kd.R_drew)); exact Kd.R_mono HO147.out (fun _ hk => trivial)⟩, ⟨by (with_reducible repeat (first | refine blk_drewN ?_ _ | refine blk_drew ?_ | refine blk_alloc ?_ _)); exact BK149.out⟩, ⟨by repeat (first | (with_reducible first | exact HB.out | apply below_alloc | apply pw_below_drewN | apply below_drew1 | refine below_set ?_ GE149.out) | exact HB.out)⟩⟩
  ·rw [if_neg c10] at H
   have c10b0 : (t163.toList == ([77, 65, 73, 76, 32, 70, 82, 79, 77, 58, 60, 97, 64, 98, 46, 99, 62, 32, 83, 73, 90, 69, 61, 49, 48, 48, 32, 82, 69, 81, 85, 73, 82, 69, 84, 76, 83, 32, 69, 78, 86, 73, 68, 61, 120] : List UInt8)) = false := beq_eq_false_iff_ne.mpr c10
   have c10b1 : (t163.toList != ([77, 65, 73, 76, 32, 70, 82, 79, 77, 58, 60, 97, 64, 98, 46, 99, 62, 32, 83, 73, 90, 69, 61, 49, 48, 48, 32, 82, 69, 81, 85, 73, 82, 69, 84, 76, 83, 32, 69, 78, 86, 73, 68, 61, 120] : List UInt8)) = true := bne_iff_ne.mpr c10
   (first | rw [c10b0] | (simp only [i64_w, i32_w]; rw [c10b0]) | skip)
   have H' := Aside0.mk H
   clear H
   go_wp2_with (first | ((with_reducible refine gate_callee (f := 21) rfl ?_); refine goesL_ (some 7) rfl rfl Tryd.func21 (by kernel_rfl) rfl #[] rfl (by (try simp only [List.map_toArray, List.map_cons, List.map_nil]); first | done | rfl | (simp only [List.length_drop, List.length_take]; rfl)) ?_; (with_reducible refine (mailroomlaw07_all.calls  t150 t151 t152 t153 t154 t155 t156 _ A7.out).mono ?_); rintro e w49 ⟨rfl, hb⟩; refine ⟨_, rfl, ?_⟩; have n0_ := Aside0.mk (Kd.R_below (by (with_reducible repeat (first | apply Kd.R_alloc | apply Kd.R_drewN | apply Kd.R_drew)); exact (Kd.R_mono (Kd.R_far (p := ⟨gb149, 2, none⟩) (Kd.R_far (p := ⟨gb149, 1, none⟩) (Kd.R_far (p := ⟨gb149, 0, none⟩) (Kd.R_types HO147.out BK149.out (by decide)) (fun _ hk => hk.2) (.int .u8 t143)) (fun _ hk => hk.2) (.string t144)) (fun _ hk => hk.2) (.slice Ao6 t145.length co6)) (fun _ h_ => h_.1))) hb); have n1_ := Aside0.mk (blk_below (g := gb149) (o := .cells #[.int .u8 t143, .string t144, .slice Ao6 t145.length co6] 27 (0, 0)) (by (with_reducible repeat (first | refine blk_drewN ?_ _ | refine blk_drew ?_ | refine blk_alloc ?_ _)); refine blk_put (cs := #[.int .u8 t143, .string t144, .slice none 0 0]) ?_ 2 _ rfl; (with_reducible repeat (first | refine blk_drewN ?_ _ | refine blk_drew ?_ | refine blk_alloc ?_ _)); refine blk_put (cs := #[.int .u8 t143, .string (⟨#[]⟩ : ByteArray), .slice none 0 0]) ?_ 1 _ rfl; (with_reducible repeat (first | refine blk_drewN ?_ _ | refine blk_drew ?_ | refine blk_alloc ?_ _)); refine blk_put (cs := #[.int .u8 0, .string (⟨#[]⟩ : ByteArray), .slice none 0 0]) ?_ 0 _ rfl; (with_reducible repeat (first | refine blk_drewN ?_ _ | refine blk_drew ?_ | refine blk_alloc ?_ _)); exact BK149.out) hb); have n2_ := Aside0.mk (below_step (by repeat (first | (with_reducible first | exact HB.out | apply below_alloc | apply pw_below_drewN | apply below_drew1 | refine below_set ?_ GE149.out) | exact HB.out)) hb); clear HO147; clear BK149; clear HB; have HO147 := n0_; have BK149 := n1_; have HB := n2_; clear n0_ n1_ n2_; (try clear hb); (try clear hb2); (try clear hk); (try clear hi)) | ((with_reducible refine gate_callee (f := 8) rfl ?_); refine goesL_ (some 8) rfl rfl Tryd.func8 (by kernel_rfl) rfl #[.string (⟨#[97, 64, 98, 46, 99]⟩ : ByteArray), .agg #[.bool t150, .bool t151, .bool t152, .bool t153, .bool t154, .bool t155, .int .i64 t156], .int .i64 100, .bool true, .string (⟨#[120]⟩ : ByteArray)] rfl (by (try simp only [List.map_toArray, List.map_cons, List.map_nil]); first | done | rfl | (simp only [List.length_drop, List.length_take]; rfl)) ?_; (with_reducible refine (cmd_Mail.calls (⟨#[97, 64, 98, 46, 99]⟩ : ByteArray) t150 t151 t152 t153 t154 t155 t156 100 true (⟨#[120]⟩ : ByteArray) t157 t158 t159 t162 _ A8.out (GL.of_below hG (by repeat (first | (with_reducible first | exact HB.out | exact Below.refl _ _ | apply below_alloc | apply pw_below_drewN | apply below_drew1) | exact HB.out | exact hb | refine below_set ?_ (by assumption))))).mono ?_); rintro e w50 ⟨v160, rfl, ho0, hb⟩; refine ⟨_, rfl, ?_⟩; have n0_ := Aside0.mk (Kd.R_elder' (by (with_reducible repeat (first | apply Kd.R_alloc | apply Kd.R_drewN | apply Kd.R_drew)); exact HO147.out) (Kd.R_base ho0) hb); have n1_ := Aside0.mk (Kd.R_lower (Kd.R_new' ho0 (Kd.R_lt (by (with_reducible repeat (first | apply Kd.R_alloc | apply Kd.R_drewN | apply Kd.R_drew)); exact HO147.out))) (below_size (by repeat (first | (with_reducible first | exact HB.out | apply below_alloc | apply pw_below_drewN | apply below_drew1 | refine below_set ?_ GE149.out) | exact HB.out)))); have n2_ := Aside0.mk (blk_below (g := gb149) (o := .cells #[.int .u8 t143, .string t144, .slice Ao6 t145.length co6] 27 (0, 0)) (by (with_reducible repeat (first | refine blk_drewN ?_ _ | refine blk_drew ?_ | refine blk_alloc ?_ _)); exact BK149.out) hb); have n3_ := Aside0.mk (below_step (by repeat (first | (with_reducible first | exact HB.out | apply below_alloc | apply pw_below_drewN | apply below_drew1 | refine below_set ?_ GE149.out) | exact HB.out)) hb); clear HO147; clear BK149; clear HB; have HO147 := n0_; have HO161 := n1_; have BK149 := n2_; have HB := n3_; clear n0_ n1_ n2_ n3_; (try clear hb); (try clear hb2); (try clear hk); (try clear hi); (try clear ho0); obtain ⟨Ao51, co51, eo51⟩ := Kd.R_slice HO161.out; subst eo51) | ((with_reducible refine gate_callee (f := 10) rfl ?_); refine goesL_ (some 11) rfl rfl Tryd.func10 (by kernel_rfl) rfl #[.agg #[.int .u8 t157, .string t158, .slice Ao51 t159.length co51], .int .i64 t162] rfl (by (try simp only [List.map_toArray, List.map_cons, List.map_nil]); first | done | rfl | (simp only [List.length_drop, List.length_take]; rfl)) ?_; (with_reducible refine (mailroomlaw07_shown.calls t157 t158 _ _ t159 t162 t163 _ ?side1 ?side2 A9.out).mono ?_); (case side1 => repeat (first | exact (Kd.R_reads' HO161.out).2.2 | (with_reducible refine Kd.C_alloc ?_ _) | (with_reducible refine Kd.C_drewN ?_ _) | (with_reducible refine Kd.C_drew ?_))); (case side2 => exact (Kd.R_reads' HO161.out).2.1); rintro e w52 ⟨rfl, hb⟩; refine ⟨_, rfl, ?_⟩; have n0_ := Aside0.mk (Kd.R_below (by (with_reducible repeat (first | apply Kd.R_alloc | apply Kd.R_drewN | apply Kd.R_drew)); exact HO147.out) hb); have n1_ := Aside0.mk (Kd.R_below (by (with_reducible repeat (first | apply Kd.R_alloc | apply Kd.R_drewN | apply Kd.R_drew)); exact HO161.out) hb); have n2_ := Aside0.mk (blk_below (g := gb149) (o := .cells #[.int .u8 t143, .string t144, .slice Ao6 t145.length co6] 27 (0, 0)) (by (with_reducible repeat (first | refine blk_drewN ?_ _ | refine blk_drew ?_ | refine blk_alloc ?_ _)); exact BK149.out) hb); have n3_ := Aside0.mk (below_step (by repeat (first | (with_reducible first | exact HB.out | apply below_alloc | apply pw_below_drewN | apply below_drew1 | refine below_set ?_ GE149.out) | exact HB.out)) hb); clear HO147; clear HO161; clear BK149; clear HB; have HO147 := n0_; have HO161 := n1_; have BK149 := n2_; have HB := n3_; clear n0_ n1_ n2_ n3_; (try clear hb); (try clear hb2); (try clear hk); (try clear hi)))
   go_meet
   case rel => exact ⟨_, (true), (by first | rfl | (simp; done) | (simp [*]; done)), H', ⟨by first | omega | exact Nat.le_refl _⟩, ⟨by (with_reducible repeat (first | apply Kd.R_alloc | apply Kd.R_drewN | apply Kd.R_drew)); exact Kd.R_mono HO147.out (fun _ hk => trivial)⟩, ⟨by (with_reducible repeat (first | refine blk_drewN ?_ _ | refine blk_drew ?_ | refine blk_alloc ?_ _)); exact BK149.out⟩, ⟨by repeat (first | (with_reducible first | exact HB.out | apply below_alloc | apply pw_below_drewN | apply below_drew1 | refine below_set ?_ GE149.out) | exact HB.out)⟩⟩
 case rest =>
  clear HC2
  try clear c1
  try clear c2
  try clear p2
  try clear c7
  try clear c8
  try clear c10
  try clear c10b0
  try clear c10b1
  try clear c13
  try clear c13b0
  try clear c13b1
  try clear c14
  try clear c16
  try clear c16b0
  try clear c16b1
  try clear c21
  try clear hcz5_0
  try clear hcz5_1
  try clear hcz5_2
  try clear hfz5_0
  try clear hfz5_1
  try clear hfz5_2
  obtain ⟨kq, x36_1, rfl, HA, HJ1, HO_150002, BK149, HB⟩ := hcut
  cases kq with
  | zero => exact absurd HA.out (by simp [mailroomlaw07_awake.j0])
  | succ kj1 =>
   have H := HA.out
   clear HA
   simp only [mailroomlaw07_awake.j0] at H
   by_cases c53 : x36_1 = true
   ·subst c53
    have H1 : (some false) = some r := by rw [if_pos rfl] at H; exact H
    clear H
    have H := H1
    clear H1
    obtain rfl := Option.some.inj H
    go_wp2
    go_ret
    exact ⟨by first | rfl | (simp [errW_none, errW_some] <;> rfl) | (simp [*, errW_none, errW_some] <;> rfl), by repeat (first | (with_reducible first | exact HB.out | apply below_alloc | apply pw_below_drewN | apply below_drew1 | refine below_set ?_ GE149.out) | exact HB.out)⟩
   ·replace c53 := Bool.eq_false_iff.mpr c53
    subst c53
    have H1 : (if t148 = 0 then (if t143 = 1 then (if t144.toList = ([109, 120, 46, 101, 120, 97, 109, 112, 108, 101] : List UInt8) then (if (t145.length : Int) = 0 then ((mailroomlaw07_wrong.f (⟨#[77, 65, 73, 76, 32, 70, 82, 79, 77, 58, 32, 60, 97, 64, 98, 46, 99, 62]⟩ : ByteArray)).bind fun t185 => (if t185 = 4 then ((mailroomlaw07_wrong.f (⟨#[68, 65, 84, 65, 32]⟩ : ByteArray)).bind fun t186 => (if t186 = 4 then ((mailroomlaw07_wrong.f (⟨#[82, 67, 80, 84, 32, 84, 79, 58, 60, 62]⟩ : ByteArray)).bind fun t187 => (some (t187 == 4))) else (some false))) else (some false))) else (some false)) else (some false)) else (some false)) else (some false)) = some r := by rw [if_neg (show ¬ (false = true) by decide)] at H; exact H
    clear H
    have H := H1
    clear H1
    by_cases c54 : t148 = 0
    ·rw [if_pos c54] at H
     have c54b0 : (t148 == 0) = true := beq_iff_eq.mpr c54
     have c54b1 : (t148 != 0) = false := bne_eq_false_iff_eq.mpr c54
     clear c54
     by_cases c55 : t143 = 1
     ·rw [if_pos c55] at H
      have c55b0 : (t143 == 1) = true := beq_iff_eq.mpr c55
      have c55b1 : (t143 != 1) = false := bne_eq_false_iff_eq.mpr c55
      clear c55
      by_cases c56 : t144.toList = ([109, 120, 46, 101, 120, 97, 109, 112, 108, 101] : List UInt8)
      ·rw [if_pos c56] at H
       have c56b0 : (t144.toList == ([109, 120, 46, 101, 120, 97, 109, 112, 108, 101] : List UInt8)) = true := beq_iff_eq.mpr c56
       have c56b1 : (t144.toList != ([109, 120, 46, 101, 120, 97, 109, 112, 108, 101] : List UInt8)) = false := bne_eq_false_iff_eq.mpr c56
       clear c56
       by_cases c57 : (t145.length : Int) = 0
       ·rw [if_pos c57] at H
        have c57b0 : ((t145.length : Int) == 0) = true := beq_iff_eq.mpr c57
        have c57b1 : ((t145.length : Int) != 0) = false := bne_eq_false_iff_eq.mpr c57
        clear c57
        replace H := Option.bind_eq_some_iff.mp H
        obtain ⟨t185, A580, H⟩ := H
        replace H : (if t185 = 4 then ((mailroomlaw07_wrong.f (⟨#[68, 65, 84, 65, 32]⟩ : ByteArray)).bind fun t186 => (if t186 = 4 then ((mailroomlaw07_wrong.f (⟨#[82, 67, 80, 84, 32, 84, 79, 58, 60, 62]⟩ : ByteArray)).bind fun t187 => (some (t187 == 4))) else (some false))) else (some false)) = some r := H
        have A58 := Aside0.mk A580
        clear A580
        by_cases c59 : t185 = 4
        ·rw [if_pos c59] at H
         have c59b0 : (t185 == 4) = true := beq_iff_eq.mpr c59
         have c59b1 : (t185 != 4) = false := bne_eq_false_iff_eq.mpr c59
         clear c59
         replace H := Option.bind_eq_some_iff.mp H
         obtain ⟨t186, A600, H⟩ := H
         replace H : (if t186 = 4 then ((mailroomlaw07_wrong.f (⟨#[82, 67, 80, 84, 32, 84, 79, 58, 60, 62]⟩ : ByteArray)).bind fun t187 => (some (t187 == 4))) else (some false)) = some r := H
         have A60 := Aside0.mk A600
         clear A600
         by_cases c61 : t186 = 4
         ·rw [if_pos c61] at H
          have c61b0 : (t186 == 4) = true := beq_iff_eq.mpr c61
          have c61b1 : (t186 != 4) = false := bne_eq_false_iff_eq.mpr c61
          clear c61
          replace H := Option.bind_eq_some_iff.mp H
          obtain ⟨t187, A620, H⟩ := H
          replace H : (some (t187 == 4)) = some r := H
          have A62 := Aside0.mk A620
          clear A620
          obtain rfl := Option.some.inj H
          have hcz63_0 : wc.cell? ⟨gb149, 0, none⟩ = some (.int .u8 t143) := (blk_cell BK149.out 0).trans rfl
          have hcz63_1 : wc.cell? ⟨gb149, 1, none⟩ = some (.string t144) := (blk_cell BK149.out 1).trans rfl
          have hcz63_2 : wc.cell? ⟨gb149, 2, none⟩ = some (.slice Ao6 t145.length co6) := (blk_cell BK149.out 2).trans rfl
          have hfz63_0 := blk_frozen BK149.out 0
          have hfz63_1 := blk_frozen BK149.out 1
          have hfz63_2 := blk_frozen BK149.out 2
          go_wp2_with (first | (go_at_call 20; (with_reducible refine (mailroomlaw07_wrong.calls (⟨#[77, 65, 73, 76, 32, 70, 82, 79, 77, 58, 32, 60, 97, 64, 98, 46, 99, 62]⟩ : ByteArray) t185 _ A58.out).mono ?_); rintro e w64 ⟨rfl, hb⟩; have n0_ := Aside0.mk (Kd.R_below (by (with_reducible repeat (first | apply Kd.R_alloc | apply Kd.R_drewN | apply Kd.R_drew)); exact HO_150002.out) hb); have n1_ := Aside0.mk (blk_below (g := gb149) (o := .cells #[.int .u8 t143, .string t144, .slice Ao6 t145.length co6] 27 (0, 0)) (by (with_reducible repeat (first | refine blk_drewN ?_ _ | refine blk_drew ?_ | refine blk_alloc ?_ _)); exact BK149.out) hb); have n2_ := Aside0.mk (below_step (by repeat (first | (with_reducible first | exact HB.out | apply below_alloc | apply pw_below_drewN | apply below_drew1 | refine below_set ?_ GE149.out) | exact HB.out)) hb); clear HO_150002; clear BK149; clear HB; have HO_150002 := n0_; have BK149 := n1_; have HB := n2_; clear n0_ n1_ n2_; (try clear hb); (try clear hb2); (try clear hk); (try clear hi)) | (go_at_call 20; (with_reducible refine (mailroomlaw07_wrong.calls (⟨#[68, 65, 84, 65, 32]⟩ : ByteArray) t186 _ A60.out).mono ?_); rintro e w65 ⟨rfl, hb⟩; have n0_ := Aside0.mk (Kd.R_below (by (with_reducible repeat (first | apply Kd.R_alloc | apply Kd.R_drewN | apply Kd.R_drew)); exact HO_150002.out) hb); have n1_ := Aside0.mk (blk_below (g := gb149) (o := .cells #[.int .u8 t143, .string t144, .slice Ao6 t145.length co6] 27 (0, 0)) (by (with_reducible repeat (first | refine blk_drewN ?_ _ | refine blk_drew ?_ | refine blk_alloc ?_ _)); exact BK149.out) hb); have n2_ := Aside0.mk (below_step (by repeat (first | (with_reducible first | exact HB.out | apply below_alloc | apply pw_below_drewN | apply below_drew1 | refine below_set ?_ GE149.out) | exact HB.out)) hb); clear HO_150002; clear BK149; clear HB; have HO_150002 := n0_; have BK149 := n1_; have HB := n2_; clear n0_ n1_ n2_; (try clear hb); (try clear hb2); (try clear hk); (try clear hi)) | (go_at_call 20; (with_reducible refine (mailroomlaw07_wrong.calls (⟨#[82, 67, 80, 84, 32, 84, 79, 58, 60, 62]⟩ : ByteArray) t187 _ A62.out).mono ?_); rintro e w66 ⟨rfl, hb⟩; have n0_ := Aside0.mk (Kd.R_below (by (with_reducible repeat (first | apply Kd.R_alloc | apply Kd.R_drewN | apply Kd.R_drew)); exact HO_150002.out) hb); have n1_ := Aside0.mk (blk_below (g := gb149) (o := .cells #[.int .u8 t143, .string t144, .slice Ao6 t145.length co6] 27 (0, 0)) (by (with_reducible repeat (first | refine blk_drewN ?_ _ | refine blk_drew ?_ | refine blk_alloc ?_ _)); exact BK149.out) hb); have n2_ := Aside0.mk (below_step (by repeat (first | (with_reducible first | exact HB.out | apply below_alloc | apply pw_below_drewN | apply below_drew1 | refine below_set ?_ GE149.out) | exact HB.out)) hb); clear HO_150002; clear BK149; clear HB; have HO_150002 := n0_; have BK149 := n1_; have HB := n2_; clear n0_ n1_ n2_; (try clear hb); (try clear hb2); (try clear hk); (try clear hi)))
          go_ret
          exact ⟨by first | rfl | (simp [errW_none, errW_some] <;> rfl) | (simp [*, errW_none, errW_some] <;> rfl), by repeat (first | (with_reducible first | exact HB.out | apply below_alloc | apply pw_below_drewN | apply below_drew1 | refine below_set ?_ GE149.out) | exact HB.out)⟩
         ·rw [if_neg c61] at H
          have c61b0 : (t186 == 4) = false := beq_eq_false_iff_ne.mpr c61
          have c61b1 : (t186 != 4) = true := bne_iff_ne.mpr c61
          obtain rfl := Option.some.inj H
          have hcz67_0 : wc.cell? ⟨gb149, 0, none⟩ = some (.int .u8 t143) := (blk_cell BK149.out 0).trans rfl
          have hcz67_1 : wc.cell? ⟨gb149, 1, none⟩ = some (.string t144) := (blk_cell BK149.out 1).trans rfl
          have hcz67_2 : wc.cell? ⟨gb149, 2, none⟩ = some (.slice Ao6 t145.length co6) := (blk_cell BK149.out 2).trans rfl
          have hfz67_0 := blk_frozen BK149.out 0
          have hfz67_1 := blk_frozen BK149.out 1
          have hfz67_2 := blk_frozen BK149.out 2
          go_wp2_with (first | (go_at_call 20; (with_reducible refine (mailroomlaw07_wrong.calls (⟨#[77, 65, 73, 76, 32, 70, 82, 79, 77, 58, 32, 60, 97, 64, 98, 46, 99, 62]⟩ : ByteArray) t185 _ A58.out).mono ?_); rintro e w68 ⟨rfl, hb⟩; have n0_ := Aside0.mk (Kd.R_below (by (with_reducible repeat (first | apply Kd.R_alloc | apply Kd.R_drewN | apply Kd.R_drew)); exact HO_150002.out) hb); have n1_ := Aside0.mk (blk_below (g := gb149) (o := .cells #[.int .u8 t143, .string t144, .slice Ao6 t145.length co6] 27 (0, 0)) (by (with_reducible repeat (first | refine blk_drewN ?_ _ | refine blk_drew ?_ | refine blk_alloc ?_ _)); exact BK149.out) hb); have n2_ := Aside0.mk (below_step (by repeat (first | (with_reducible first | exact HB.out | apply below_alloc | apply pw_below_drewN | apply below_drew1 | refine below_set ?_ GE149.out) | exact HB.out)) hb); clear HO_150002; clear BK149; clear HB; have HO_150002 := n0_; have BK149 := n1_; have HB := n2_; clear n0_ n1_ n2_; (try clear hb); (try clear hb2); (try clear hk); (try clear hi)) | (go_at_call 20; (with_reducible refine (mailroomlaw07_wrong.calls (⟨#[68, 65, 84, 65, 32]⟩ : ByteArray) t186 _ A60.out).mono ?_); rintro e w69 ⟨rfl, hb⟩; have n0_ := Aside0.mk (Kd.R_below (by (with_reducible repeat (first | apply Kd.R_alloc | apply Kd.R_drewN | apply Kd.R_drew)); exact HO_150002.out) hb); have n1_ := Aside0.mk (blk_below (g := gb149) (o := .cells #[.int .u8 t143, .string t144, .slice Ao6 t145.length co6] 27 (0, 0)) (by (with_reducible repeat (first | refine blk_drewN ?_ _ | refine blk_drew ?_ | refine blk_alloc ?_ _)); exact BK149.out) hb); have n2_ := Aside0.mk (below_step (by repeat (first | (with_reducible first | exact HB.out | apply below_alloc | apply pw_below_drewN | apply below_drew1 | refine below_set ?_ GE149.out) | exact HB.out)) hb); clear HO_150002; clear BK149; clear HB; have HO_150002 := n0_; have BK149 := n1_; have HB := n2_; clear n0_ n1_ n2_; (try clear hb); (try clear hb2); (try clear hk); (try clear hi)))
          go_ret
          exact ⟨by first | rfl | (simp [errW_none, errW_some] <;> rfl) | (simp [*, errW_none, errW_some] <;> rfl), by repeat (first | (with_reducible first | exact HB.out | apply below_alloc | apply pw_below_drewN | apply below_drew1 | refine below_set ?_ GE149.out) | exact HB.out)⟩
        ·rw [if_neg c59] at H
         have c59b0 : (t185 == 4) = false := beq_eq_false_iff_ne.mpr c59
         have c59b1 : (t185 != 4) = true := bne_iff_ne.mpr c59
         obtain rfl := Option.some.inj H
         have hcz70_0 : wc.cell? ⟨gb149, 0, none⟩ = some (.int .u8 t143) := (blk_cell BK149.out 0).trans rfl
         have hcz70_1 : wc.cell? ⟨gb149, 1, none⟩ = some (.string t144) := (blk_cell BK149.out 1).trans rfl
         have hcz70_2 : wc.cell? ⟨gb149, 2, none⟩ = some (.slice Ao6 t145.length co6) := (blk_cell BK149.out 2).trans rfl
         have hfz70_0 := blk_frozen BK149.out 0
         have hfz70_1 := blk_frozen BK149.out 1
         have hfz70_2 := blk_frozen BK149.out 2
         go_wp2_with (first | (go_at_call 20; (with_reducible refine (mailroomlaw07_wrong.calls (⟨#[77, 65, 73, 76, 32, 70, 82, 79, 77, 58, 32, 60, 97, 64, 98, 46, 99, 62]⟩ : ByteArray) t185 _ A58.out).mono ?_); rintro e w71 ⟨rfl, hb⟩; have n0_ := Aside0.mk (Kd.R_below (by (with_reducible repeat (first | apply Kd.R_alloc | apply Kd.R_drewN | apply Kd.R_drew)); exact HO_150002.out) hb); have n1_ := Aside0.mk (blk_below (g := gb149) (o := .cells #[.int .u8 t143, .string t144, .slice Ao6 t145.length co6] 27 (0, 0)) (by (with_reducible repeat (first | refine blk_drewN ?_ _ | refine blk_drew ?_ | refine blk_alloc ?_ _)); exact BK149.out) hb); have n2_ := Aside0.mk (below_step (by repeat (first | (with_reducible first | exact HB.out | apply below_alloc | apply pw_below_drewN | apply below_drew1 | refine below_set ?_ GE149.out) | exact HB.out)) hb); clear HO_150002; clear BK149; clear HB; have HO_150002 := n0_; have BK149 := n1_; have HB := n2_; clear n0_ n1_ n2_; (try clear hb); (try clear hb2); (try clear hk); (try clear hi)))
         go_ret
         exact ⟨by first | rfl | (simp [errW_none, errW_some] <;> rfl) | (simp [*, errW_none, errW_some] <;> rfl), by repeat (first | (with_reducible first | exact HB.out | apply below_alloc | apply pw_below_drewN | apply below_drew1 | refine below_set ?_ GE149.out) | exact HB.out)⟩
       ·rw [if_neg c57] at H
        have c57b0 : ((t145.length : Int) == 0) = false := beq_eq_false_iff_ne.mpr c57
        have c57b1 : ((t145.length : Int) != 0) = true := bne_iff_ne.mpr c57
        have c57b2 : ¬ (t145 = []) := fun h_ => c57 (by rw [h_]; rfl)
        obtain rfl := Option.some.inj H
        have hcz72_0 : wc.cell? ⟨gb149, 0, none⟩ = some (.int .u8 t143) := (blk_cell BK149.out 0).trans rfl
        have hcz72_1 : wc.cell? ⟨gb149, 1, none⟩ = some (.string t144) := (blk_cell BK149.out 1).trans rfl
        have hcz72_2 : wc.cell? ⟨gb149, 2, none⟩ = some (.slice Ao6 t145.length co6) := (blk_cell BK149.out 2).trans rfl
        have hfz72_0 := blk_frozen BK149.out 0
        have hfz72_1 := blk_frozen BK149.out 1
        have hfz72_2 := blk_frozen BK149.out 2
        go_wp2
        go_ret
        exact ⟨by first | rfl | (simp [errW_none, errW_some] <;> rfl) | (simp [*, errW_none, errW_some] <;> rfl), by repeat (first | (with_reducible first | exact HB.out | apply below_alloc | apply pw_below_drewN | apply below_drew1 | refine below_set ?_ GE149.out) | exact HB.out)⟩
      ·rw [if_neg c56] at H
       have c56b0 : (t144.toList == ([109, 120, 46, 101, 120, 97, 109, 112, 108, 101] : List UInt8)) = false := beq_eq_false_iff_ne.mpr c56
       have c56b1 : (t144.toList != ([109, 120, 46, 101, 120, 97, 109, 112, 108, 101] : List UInt8)) = true := bne_iff_ne.mpr c56
       obtain rfl := Option.some.inj H
       have hcz73_0 : wc.cell? ⟨gb149, 0, none⟩ = some (.int .u8 t143) := (blk_cell BK149.out 0).trans rfl
       have hcz73_1 : wc.cell? ⟨gb149, 1, none⟩ = some (.string t144) := (blk_cell BK149.out 1).trans rfl
       have hcz73_2 : wc.cell? ⟨gb149, 2, none⟩ = some (.slice Ao6 t145.length co6) := (blk_cell BK149.out 2).trans rfl
       have hfz73_0 := blk_frozen BK149.out 0
       have hfz73_1 := blk_frozen BK149.out 1
       have hfz73_2 := blk_frozen BK149.out 2
       go_wp2
       go_ret
       exact ⟨by first | rfl | (simp [errW_none, errW_some] <;> rfl) | (simp [*, errW_none, errW_some] <;> rfl), by repeat (first | (with_reducible first | exact HB.out | apply below_alloc | apply pw_below_drewN | apply below_drew1 | refine below_set ?_ GE149.out) | exact HB.out)⟩
     ·rw [if_neg c55] at H
      have c55b0 : (t143 == 1) = false := beq_eq_false_iff_ne.mpr c55
      have c55b1 : (t143 != 1) = true := bne_iff_ne.mpr c55
      obtain rfl := Option.some.inj H
      have hcz74_0 : wc.cell? ⟨gb149, 0, none⟩ = some (.int .u8 t143) := (blk_cell BK149.out 0).trans rfl
      have hcz74_1 : wc.cell? ⟨gb149, 1, none⟩ = some (.string t144) := (blk_cell BK149.out 1).trans rfl
      have hcz74_2 : wc.cell? ⟨gb149, 2, none⟩ = some (.slice Ao6 t145.length co6) := (blk_cell BK149.out 2).trans rfl
      have hfz74_0 := blk_frozen BK149.out 0
      have hfz74_1 := blk_frozen BK149.out 1
      have hfz74_2 := blk_frozen BK149.out 2
      go_wp2
      go_ret
      exact ⟨by first | rfl | (simp [errW_none, errW_some] <;> rfl) | (simp [*, errW_none, errW_some] <;> rfl), by repeat (first | (with_reducible first | exact HB.out | apply below_alloc | apply pw_below_drewN | apply below_drew1 | refine below_set ?_ GE149.out) | exact HB.out)⟩
    ·rw [if_neg c54] at H
     have c54b0 : (t148 == 0) = false := beq_eq_false_iff_ne.mpr c54
     have c54b1 : (t148 != 0) = true := bne_iff_ne.mpr c54
     obtain rfl := Option.some.inj H
     go_wp2
     go_ret
     exact ⟨by first | rfl | (simp [errW_none, errW_some] <;> rfl) | (simp [*, errW_none, errW_some] <;> rfl), by repeat (first | (with_reducible first | exact HB.out | apply below_alloc | apply pw_below_drewN | apply below_drew1 | refine below_set ?_ GE149.out) | exact HB.out)⟩
end Go.Proofs.YtljkopbalejcgaaDoor.P
end
section
set_option linter.unusedVariables false
set_option linter.unusedSimpArgs false
namespace Go.Proofs.YtljkopbalejcgaaDoor.P
open Go Go.RowKit Go.Lib Go.Proofs.YtljkopbalejcgaaDoorW.PrintWords
theorem aw_all : mailroomlaw07_awake.f 5 = some true := by kernel_rfl
theorem awake_ev : EvF (fun k => mailroomlaw07_awake.f k) true := EvF.at 5 aw_all mailroomlaw07_awake.mono
end Go.Proofs.YtljkopbalejcgaaDoor.P
end
section
namespace Go.Proofs.YtljkopbalejcgaaDoor.P
open Go.RowKit Go.Proofs.YtljkopbalejcgaaDoorW.PrintWords Go.Proofs.YtljkopbalejcgaaDoorW.PrintLast Go.Proofs.YtljkopbalejcgaaDoorW.PrintMore
attribute [local go_sem] max2_int min2_int max_two min_two max_three min_three max_four min_four
set_option linter.unusedVariables false
set_option linter.unusedSimpArgs false
def mailroomlaw07_long.l0 : Nat → Int → Int → Int → ByteArray → List (S49) → Option (Bool)
 | 0, _, _, _, _, _ => none
 | k + 1, x3, x4, x233000, x233001, x233002 => if x4 < (x233002.length : Int) then (if x3 < 5000 then (if 0 ≤ x4 then (mailroomlaw07_long.l0 k (wrap64 ((wrap64 ((wrap64 (x3 + 5)) + (mn 5000 (((rd_T49 x233002 x4).f0).size : Int)))) + (mn 5000 (((rd_T49 x233002 x4).f1).size : Int)))) (wrap64 (x4 + 1)) x233000 x233001 x233002) else (none)) else (some (decide (x3 ≥ 5000)))) else (some (decide (x3 ≥ 5000)))
def mailroomlaw07_long.f (k : Nat) (a0_0 : Int) (a0_1 : ByteArray) (l0_2 : List (S49)) : Option (Bool) := mailroomlaw07_long.l0 k (mn 5000 (a0_1.size : Int)) 0 a0_0 a0_1 l0_2
theorem mailroomlaw07_long.mono_l : ∀ k, (∀ y0 y1 y2 y3 y4, LeO (mailroomlaw07_long.l0 k y0 y1 y2 y3 y4) (mailroomlaw07_long.l0 (k + 1) y0 y1 y2 y3 y4))
 | 0 => fun _ _ _ _ _ r h => by simp [mailroomlaw07_long.l0] at h
 | k + 1 => by
  have ih0 := mailroomlaw07_long.mono_l k
  ·intro y0 y1 y2 y3 y4
   unfold mailroomlaw07_long.l0
   repeat' first
   | (with_reducible exact ih0 _ _ _ _ _)
   | (with_reducible exact LeO.refl _)
   | (with_reducible exact LeO.none _)
   | (with_reducible refine LeO.ite ?_ ?_)
   | (with_reducible refine LeO.bind ?_ (fun _ => ?_))
   | exact ih0 _ _ _ _ _
   | exact LeO.none _
   | refine LeO.ite ?_ ?_
   | refine LeO.bind ?_ (fun _ => ?_)
theorem mailroomlaw07_long.mono : ∀ a0 a1 a2 k, LeO (mailroomlaw07_long.f k a0 a1 a2) (mailroomlaw07_long.f (k + 1) a0 a1 a2) := by
 intro a0 a1 a2 k
 have ih0 := mailroomlaw07_long.mono_l k
 unfold mailroomlaw07_long.f
 repeat' first
   | (with_reducible exact ih0 _ _ _ _ _)
   | (with_reducible exact LeO.refl _)
   | (with_reducible exact LeO.none _)
   | (with_reducible refine LeO.ite ?_ ?_)
   | (with_reducible refine LeO.bind ?_ (fun _ => ?_))
   | exact ih0 _ _ _ _ _
   | exact LeO.none _
   | refine LeO.ite ?_ ?_
   | refine LeO.bind ?_ (fun _ => ?_)
set_option maxHeartbeats 8000000 in
set_option maxRecDepth 100000 in
theorem mailroomlaw07_long.calls (k : Nat) (a0_0 : Int) (a0_1 : ByteArray) (A0_2 : Option Addr) (c0_2 : Nat) (l0_2 : List (S49)) (r : Bool) (w : World) (hr0_2 : Kd.C k49 w A0_2 l0_2.length l0_2) (hc0_2 : l0_2.length ≤ c0_2) (h : mailroomlaw07_long.f k a0_0 a0_1 l0_2 = some r) :
  Calls Tryd.prog 12 #[.agg #[.int .u8 a0_0, .string a0_1, .slice A0_2 l0_2.length c0_2]] w fun e w' => e = .returned (.bool r) ∧ Below w.heap.size w w' := by
 have hu27 := Tryd.underlying27
 have HR0_2 := Aside0.mk hr0_2
 have HC0_2 := Aside0.mk hc0_2
 clear hr0_2 hc0_2
 have HB := Aside0.mk (Below.refl w.heap.size w)
 have H : (mailroomlaw07_long.l0 k (mn 5000 (a0_1.size : Int)) 0 a0_0 a0_1 l0_2) = some r := h
 clear h
 obtain ⟨ji2, hji2⟩ : ∃ j_ : Int, (mn 5000 (a0_1.size : Int)) = j_ := ⟨_, rfl⟩
 replace H : (mailroomlaw07_long.l0 k ji2 0 a0_0 a0_1 l0_2) = some r := by first | (rw [hji2] at H; exact H) | (simp only [hji2] at H ⊢; exact H)
 (try (have hji2h : ji2 ≤ 5000 := by (rw [← hji2]; unfold mn; (repeat' split) <;> omega)))
 (try (have hji2g : ji2 ≤ 64 := by omega))
 (try (have hji2l : 0 ≤ ji2 := by (rw [← hji2]; unfold mn; (repeat' split) <;> omega)))
 (try (have hji2m : 0 ≤ ji2 := by omega))
 have hji2_ : (if (a0_1.size : Int) < 5000 then (a0_1.size : Int) else 5000) = ji2 := hji2
 have H' := Aside0.mk H
 clear H
 go_enter Tryd.func12, Tryd.ntmps12
 go_wp2_with (first | ((with_reducible refine gate_dst (N := 1) rfl ?_); refine box_event ?hg (N := 1) ?hd (cs := #[.int .u8 a0_0, .string a0_1, .slice A0_2 l0_2.length c0_2]) (t := 27) ?hr ?_; (case hd => rfl); (case hg => rfl); (case hr => first | (go_simp; done) | (go_simp; rfl)); intro gb232 hg w3 hbox hb; have n0_ := Aside0.mk (below_step (by repeat (first | (with_reducible first | exact HB.out | apply below_alloc | apply pw_below_drewN | apply below_drew1) | exact HB.out)) hb); have n1_ := Aside0.mk (hbox); have n2_ := Aside0.mk ((by rw [hg]; exact (below_size (by repeat (first | (with_reducible first | exact HB.out | apply below_alloc | apply pw_below_drewN | apply below_drew1) | exact HB.out))) : w.heap.size ≤ gb232)); have n3_ := Aside0.mk ((by rw [hg]; exact (below_size (by repeat (first | (with_reducible first | exact HB.out | apply below_alloc | apply pw_below_drewN | apply below_drew1) | exact HB.out))) : w.heap.size ≤ gb232)); clear HB; have HB := n0_; have BK232 := n1_; have GW232 := n2_; have GE232 := n3_; clear n0_ n1_ n2_ n3_; clear hb hbox hg; have hcz4_0 : w3.cell? ⟨gb232, 0, none⟩ = some (.int .u8 a0_0) := (blk_cell BK232.out 0).trans rfl; have hcz4_1 : w3.cell? ⟨gb232, 1, none⟩ = some (.string a0_1) := (blk_cell BK232.out 1).trans rfl; have hcz4_2 : w3.cell? ⟨gb232, 2, none⟩ = some (.slice A0_2 l0_2.length c0_2) := (blk_cell BK232.out 2).trans rfl; have hfz4_0 := blk_frozen BK232.out 0; have hfz4_1 := blk_frozen BK232.out 1; have hfz4_2 := blk_frozen BK232.out 2))
 repeat (go_quiet (first | ((with_reducible refine gate_dst (N := 1) rfl ?_); refine box_event ?hg (N := 1) ?hd (cs := #[.int .u8 a0_0, .string a0_1, .slice A0_2 l0_2.length c0_2]) (t := 27) ?hr ?_; (case hd => rfl); (case hg => rfl); (case hr => first | (go_simp; done) | (go_simp; rfl)); intro gb232 hg w3 hbox hb; have n0_ := Aside0.mk (below_step (by repeat (first | (with_reducible first | exact HB.out | apply below_alloc | apply pw_below_drewN | apply below_drew1) | exact HB.out)) hb); have n1_ := Aside0.mk (hbox); have n2_ := Aside0.mk ((by rw [hg]; exact (below_size (by repeat (first | (with_reducible first | exact HB.out | apply below_alloc | apply pw_below_drewN | apply below_drew1) | exact HB.out))) : w.heap.size ≤ gb232)); have n3_ := Aside0.mk ((by rw [hg]; exact (below_size (by repeat (first | (with_reducible first | exact HB.out | apply below_alloc | apply pw_below_drewN | apply below_drew1) | exact HB.out))) : w.heap.size ≤ gb232)); clear HB; have HB := n0_; have BK232 := n1_; have GW232 := n2_; have GE232 := n3_; clear n0_ n1_ n2_ n3_; clear hb hbox hg; have hcz4_0 : w3.cell? ⟨gb232, 0, none⟩ = some (.int .u8 a0_0) := (blk_cell BK232.out 0).trans rfl; have hcz4_1 : w3.cell? ⟨gb232, 1, none⟩ = some (.string a0_1) := (blk_cell BK232.out 1).trans rfl; have hcz4_2 : w3.cell? ⟨gb232, 2, none⟩ = some (.slice A0_2 l0_2.length c0_2) := (blk_cell BK232.out 2).trans rfl; have hfz4_0 := blk_frozen BK232.out 0; have hfz4_1 := blk_frozen BK232.out 1; have hfz4_2 := blk_frozen BK232.out 2)); try go_wp2_with (first | ((with_reducible refine gate_dst (N := 1) rfl ?_); refine box_event ?hg (N := 1) ?hd (cs := #[.int .u8 a0_0, .string a0_1, .slice A0_2 l0_2.length c0_2]) (t := 27) ?hr ?_; (case hd => rfl); (case hg => rfl); (case hr => first | (go_simp; done) | (go_simp; rfl)); intro gb232 hg w3 hbox hb; have n0_ := Aside0.mk (below_step (by repeat (first | (with_reducible first | exact HB.out | apply below_alloc | apply pw_below_drewN | apply below_drew1) | exact HB.out)) hb); have n1_ := Aside0.mk (hbox); have n2_ := Aside0.mk ((by rw [hg]; exact (below_size (by repeat (first | (with_reducible first | exact HB.out | apply below_alloc | apply pw_below_drewN | apply below_drew1) | exact HB.out))) : w.heap.size ≤ gb232)); have n3_ := Aside0.mk ((by rw [hg]; exact (below_size (by repeat (first | (with_reducible first | exact HB.out | apply below_alloc | apply pw_below_drewN | apply below_drew1) | exact HB.out))) : w.heap.size ≤ gb232)); clear HB; have HB := n0_; have BK232 := n1_; have GW232 := n2_; have GE232 := n3_; clear n0_ n1_ n2_ n3_; clear hb hbox hg; have hcz4_0 : w3.cell? ⟨gb232, 0, none⟩ = some (.int .u8 a0_0) := (blk_cell BK232.out 0).trans rfl; have hcz4_1 : w3.cell? ⟨gb232, 1, none⟩ = some (.string a0_1) := (blk_cell BK232.out 1).trans rfl; have hcz4_2 : w3.cell? ⟨gb232, 2, none⟩ = some (.slice A0_2 l0_2.length c0_2) := (blk_cell BK232.out 2).trans rfl; have hfz4_0 := blk_frozen BK232.out 0; have hfz4_1 := blk_frozen BK232.out 1; have hfz4_2 := blk_frozen BK232.out 2)))
 go_loopg [3, 4] k (fun kq v3 v4 w' => ∃ (x3_1 : Int) (x4_1 : Int), v3 = .int .i64 x3_1 ∧ v4 = .int .i64 x4_1 ∧ Aside0 (mailroomlaw07_long.l0 kq x3_1 x4_1 a0_0 a0_1 l0_2 = some r) ∧ Aside0 (kq ≤ k) ∧ Aside0 (w'.heap[gb232]? = some (.cells #[.int .u8 a0_0, .string a0_1, (.slice A0_2 l0_2.length c0_2)] 27 (0, 0))) ∧ Aside0 (Below w.heap.size w w'))
 case atStart => exact ⟨(ji2), (0), (by first | rfl | (simp; done) | (simp only [← hji2] <;> (first | rfl | simp)) | (simp [*]; done)), (by first | rfl | (simp; done) | (simp [*]; done)), H', ⟨Nat.le_refl _⟩, ⟨by (with_reducible repeat (first | refine blk_drewN ?_ _ | refine blk_drew ?_ | refine blk_alloc ?_ _)); exact BK232.out⟩, ⟨by repeat (first | (with_reducible first | exact HB.out | apply below_alloc | apply pw_below_drewN | apply below_drew1 | refine below_set ?_ GE232.out) | exact HB.out)⟩⟩
 case round =>
  clear H'
  try clear c1
  try clear p2
  try clear hcz4_0
  try clear hcz4_1
  try clear hcz4_2
  try clear hfz4_0
  try clear hfz4_1
  try clear hfz4_2
  obtain ⟨x3_1, x4_1, rfl, rfl, HA, HK1, BK232, HB⟩ := hrel
  cases gk with
  | zero => exact absurd HA.out (by simp [mailroomlaw07_long.l0])
  | succ k1 =>
   have H := HA.out
   clear HA
   simp only [mailroomlaw07_long.l0] at H
   by_cases c5 : x4_1 < (l0_2.length : Int)
   ·rw [if_pos c5] at H
    have c5b0 : decide (x4_1 < (l0_2.length : Int)) = true := decide_eq_true c5
    clear c5
    by_cases c6 : x3_1 < 5000
    ·rw [if_pos c6] at H
     have c6b0 : decide (x3_1 < 5000) = true := decide_eq_true c6
     clear c6
     by_cases c7 : 0 ≤ x4_1
     ·rw [if_pos c7] at H
      have c7b0 : decide (0 ≤ x4_1) = true := decide_eq_true c7
      clear c7
      obtain ⟨ji8, hji8⟩ : ∃ j_ : Int, (mn 5000 (((rd_T49 l0_2 x4_1).f0).size : Int)) = j_ := ⟨_, rfl⟩
      replace H : (mailroomlaw07_long.l0 k1 (wrap64 ((wrap64 ((wrap64 (x3_1 + 5)) + (ji8))) + (mn 5000 (((rd_T49 l0_2 x4_1).f1).size : Int)))) (wrap64 (x4_1 + 1)) a0_0 a0_1 l0_2) = some r := by first | (rw [hji8] at H; exact H) | (simp only [hji8] at H ⊢; exact H)
      have hji8_ : (if (((rd_T49 l0_2 x4_1).f0).size : Int) < 5000 then (((rd_T49 l0_2 x4_1).f0).size : Int) else 5000) = ji8 := hji8
      obtain ⟨ji9, hji9⟩ : ∃ j_ : Int, (mn 5000 (((rd_T49 l0_2 x4_1).f1).size : Int)) = j_ := ⟨_, rfl⟩
      replace H : (mailroomlaw07_long.l0 k1 (wrap64 ((wrap64 ((wrap64 (x3_1 + 5)) + (ji8))) + (ji9))) (wrap64 (x4_1 + 1)) a0_0 a0_1 l0_2) = some r := by first | (rw [hji9] at H; exact H) | (simp only [hji9] at H ⊢; exact H)
      have hji9_ : (if (((rd_T49 l0_2 x4_1).f1).size : Int) < 5000 then (((rd_T49 l0_2 x4_1).f1).size : Int) else 5000) = ji9 := hji9
      have H' := Aside0.mk H
      clear H
      have hcz10_0 : wr.cell? ⟨gb232, 0, none⟩ = some (.int .u8 a0_0) := (blk_cell BK232.out 0).trans rfl
      have hcz10_1 : wr.cell? ⟨gb232, 1, none⟩ = some (.string a0_1) := (blk_cell BK232.out 1).trans rfl
      have hcz10_2 : wr.cell? ⟨gb232, 2, none⟩ = some (.slice A0_2 l0_2.length c0_2) := (blk_cell BK232.out 2).trans rfl
      have hfz10_0 := blk_frozen BK232.out 0
      have hfz10_1 := blk_frozen BK232.out 1
      have hfz10_2 := blk_frozen BK232.out 2
      have p233 : 0 ≤ (x4_1 : Int) := of_decide_eq_true (by first | (with_reducible assumption) | assumption)
      have q233 : x4_1 < (l0_2.length : Int) := of_decide_eq_true (by first | (with_reducible assumption) | assumption)
      obtain ⟨ad233, e233, hx233_0, hx233_1⟩ := at_T49 HR0_2.out x4_1 p233 q233
      cases e233
      replace hx233_0 := (HB.out.cell (World.block_lt_of_cell? w _ hx233_0)).trans hx233_0
      replace hx233_1 := (HB.out.cell (World.block_lt_of_cell? w _ hx233_1)).trans hx233_1
      replace p233 := eq_true p233
      replace q233 := eq_true q233
      have p234 : 0 ≤ (x4_1 : Int) := of_decide_eq_true (by first | (with_reducible assumption) | assumption)
      have q234 : x4_1 < (l0_2.length : Int) := of_decide_eq_true (by first | (with_reducible assumption) | assumption)
      obtain ⟨ad234, e234, hx234_0, hx234_1⟩ := at_T49 HR0_2.out x4_1 p234 q234
      obtain rfl : ad233 = ad234 := (by injection e234)
      replace hx234_0 := (HB.out.cell (World.block_lt_of_cell? w _ hx234_0)).trans hx234_0
      replace hx234_1 := (HB.out.cell (World.block_lt_of_cell? w _ hx234_1)).trans hx234_1
      replace p234 := eq_true p234
      replace q234 := eq_true q234
      go_wp2
      repeat (go_quiet (fail); try go_wp2)
      go_roundg k1
      case measure => have := HK1.out; omega
      case rel => exact ⟨(wrap64 ((wrap64 ((wrap64 (x3_1 + 5)) + (ji8))) + (ji9))), (wrap64 (x4_1 + 1)), (by first | rfl | (simp; done) | (simp only [← hji8, ← hji9] <;> (first | rfl | simp)) | (simp [*]; done)), (by first | rfl | (simp; done) | (simp [*]; done)), H', ⟨by have := HK1.out; omega⟩, ⟨by (with_reducible repeat (first | refine blk_drewN ?_ _ | refine blk_drew ?_ | refine blk_alloc ?_ _)); exact BK232.out⟩, ⟨by repeat (first | (with_reducible first | exact HB.out | apply below_alloc | apply pw_below_drewN | apply below_drew1 | refine below_set ?_ GE232.out) | exact HB.out)⟩⟩
     ·rw [if_neg c7] at H
      exact absurd H (by simp)
    ·rw [if_neg c6] at H
     have c6b0 : decide (x3_1 < 5000) = false := decide_eq_false c6
     clear c6
     obtain rfl := Option.some.inj H
     have hcz11_0 : wr.cell? ⟨gb232, 0, none⟩ = some (.int .u8 a0_0) := (blk_cell BK232.out 0).trans rfl
     have hcz11_1 : wr.cell? ⟨gb232, 1, none⟩ = some (.string a0_1) := (blk_cell BK232.out 1).trans rfl
     have hcz11_2 : wr.cell? ⟨gb232, 2, none⟩ = some (.slice A0_2 l0_2.length c0_2) := (blk_cell BK232.out 2).trans rfl
     have hfz11_0 := blk_frozen BK232.out 0
     have hfz11_1 := blk_frozen BK232.out 1
     have hfz11_2 := blk_frozen BK232.out 2
     go_wp2
     repeat (go_quiet (fail); try go_wp2)
     go_ret
     exact ⟨by first | rfl | (simp [errW_none, errW_some] <;> rfl) | (simp only [← hji2]; first | rfl | (simp [errW_none, errW_some] <;> rfl)) | (simp [*, errW_none, errW_some] <;> rfl), by repeat (first | (with_reducible first | exact HB.out | apply below_alloc | apply pw_below_drewN | apply below_drew1 | refine below_set ?_ GE232.out) | exact HB.out)⟩
   ·rw [if_neg c5] at H
    have c5b0 : decide (x4_1 < (l0_2.length : Int)) = false := decide_eq_false c5
    clear c5
    obtain rfl := Option.some.inj H
    have hcz12_0 : wr.cell? ⟨gb232, 0, none⟩ = some (.int .u8 a0_0) := (blk_cell BK232.out 0).trans rfl
    have hcz12_1 : wr.cell? ⟨gb232, 1, none⟩ = some (.string a0_1) := (blk_cell BK232.out 1).trans rfl
    have hcz12_2 : wr.cell? ⟨gb232, 2, none⟩ = some (.slice A0_2 l0_2.length c0_2) := (blk_cell BK232.out 2).trans rfl
    have hfz12_0 := blk_frozen BK232.out 0
    have hfz12_1 := blk_frozen BK232.out 1
    have hfz12_2 := blk_frozen BK232.out 2
    go_wp2
    repeat (go_quiet (fail); try go_wp2)
    go_ret
    exact ⟨by first | rfl | (simp [errW_none, errW_some] <;> rfl) | (simp only [← hji2]; first | rfl | (simp [errW_none, errW_some] <;> rfl)) | (simp [*, errW_none, errW_some] <;> rfl), by repeat (first | (with_reducible first | exact HB.out | apply below_alloc | apply pw_below_drewN | apply below_drew1 | refine below_set ?_ GE232.out) | exact HB.out)⟩
end Go.Proofs.YtljkopbalejcgaaDoor.P
end
section
namespace Go.Proofs.YtljkopbalejcgaaDoor.P
open Go.RowKit Go.Proofs.YtljkopbalejcgaaDoorW.PrintWords Go.Proofs.YtljkopbalejcgaaDoorW.PrintLast Go.Proofs.YtljkopbalejcgaaDoorW.PrintMore
attribute [local go_sem] max2_int min2_int max_two min_two max_three min_three max_four min_four
set_option linter.unusedVariables false
set_option linter.unusedSimpArgs false
theorem eqA49 (d : Nat) (w : World) (x0 y0 : ByteArray) (x1 y1 : ByteArray) :
  (Op.equalIn (d + 2) 49 (.agg #[.string x0, .string x1]) (.agg #[.string y0, .string y1])).run Tryd.prog w = .ok (x0.toList == y0.toList && (x1.toList == y1.toList)) w := by
 refine eqA_of Tryd.underlying49 (by kernel_rfl) ?_
 refine eqf_cons (by rfl) (by go_simp; rfl) (by go_simp; rfl) (by go_simp) ?_
 exact eqf_last (by rfl) (by go_simp; rfl) (by go_simp; rfl) (by go_simp)
end Go.Proofs.YtljkopbalejcgaaDoor.P
end
section
namespace Go.Proofs.YtljkopbalejcgaaDoor.P
open Go.RowKit Go.Proofs.YtljkopbalejcgaaDoorW.PrintWords Go.Proofs.YtljkopbalejcgaaDoorW.PrintLast Go.Proofs.YtljkopbalejcgaaDoorW.PrintMore
attribute [local go_sem] max2_int min2_int max_two min_two max_three min_three max_four min_four
set_option linter.unusedVariables false
set_option linter.unusedSimpArgs false
attribute [local go_sem high] eqA49
def cmd_Param.l0 : Nat → List (S49) → List (S49) → Int → Int → Option (Bool)
 | 0, _, _, _, _ => none
 | k + 1, x0, x1, x12, x13 => if x13 < x12 then (if 0 ≤ x13 then (if x13 < (x0.length : Int) then (if x13 < (x1.length : Int) then (if (!((((rd_T49 x0 x13).f0).toList) == (((rd_T49 x1 x13).f0).toList)) || (!((((rd_T49 x0 x13).f1).toList) == (((rd_T49 x1 x13).f1).toList)))) = true then (some false) else (cmd_Param.l0 k x0 x1 x12 (wrap64 (x13 + 1)))) else (none)) else (none)) else (none)) else (some true)
def cmd_Param.f (k : Nat) (l0 : List (S49)) (l1 : List (S49)) : Option (Bool) := if (l0.length : Int) = (l1.length : Int) then (cmd_Param.l0 k l0 l1 (l0.length : Int) 0) else (some false)
theorem cmd_Param.mono_l : ∀ k, (∀ y0 y1 y2 y3, LeO (cmd_Param.l0 k y0 y1 y2 y3) (cmd_Param.l0 (k + 1) y0 y1 y2 y3))
 | 0 => fun _ _ _ _ r h => by simp [cmd_Param.l0] at h
 | k + 1 => by
  have ih0 := cmd_Param.mono_l k
  ·intro y0 y1 y2 y3
   unfold cmd_Param.l0
   repeat' first
   | (with_reducible exact ih0 _ _ _ _)
   | (with_reducible exact LeO.refl _)
   | (with_reducible exact LeO.none _)
   | (with_reducible refine LeO.ite ?_ ?_)
   | (with_reducible refine LeO.bind ?_ (fun _ => ?_))
   | exact ih0 _ _ _ _
   | exact LeO.none _
   | refine LeO.ite ?_ ?_
   | refine LeO.bind ?_ (fun _ => ?_)
theorem cmd_Param.mono : ∀ a0 a1 k, LeO (cmd_Param.f k a0 a1) (cmd_Param.f (k + 1) a0 a1) := by
 intro a0 a1 k
 have ih0 := cmd_Param.mono_l k
 unfold cmd_Param.f
 repeat' first
   | (with_reducible exact ih0 _ _ _ _)
   | (with_reducible exact LeO.refl _)
   | (with_reducible exact LeO.none _)
   | (with_reducible refine LeO.ite ?_ ?_)
   | (with_reducible refine LeO.bind ?_ (fun _ => ?_))
   | exact ih0 _ _ _ _
   | exact LeO.none _
   | refine LeO.ite ?_ ?_
   | refine LeO.bind ?_ (fun _ => ?_)
set_option maxHeartbeats 8000000 in
set_option maxRecDepth 100000 in
theorem cmd_Param.calls (k : Nat) (A0 : Option Addr) (c0 : Nat) (l0 : List (S49)) (A1 : Option Addr) (c1 : Nat) (l1 : List (S49)) (r : Bool) (w : World) (hr0 : Kd.C k49 w A0 l0.length l0) (hc0 : l0.length ≤ c0) (hr1 : Kd.C k49 w A1 l1.length l1) (hc1 : l1.length ≤ c1) (h : cmd_Param.f k l0 l1 = some r) :
  Calls Tryd.prog 33 #[.slice A0 l0.length c0, .slice A1 l1.length c1] w fun e w' => e = .returned (.bool r) ∧ Drawn0 w w' := by
 have hu49 := Tryd.underlying49
 have HR0 := Aside0.mk hr0
 have HC0 := Aside0.mk hc0
 clear hr0 hc0
 have HR1 := Aside0.mk hr1
 have HC1 := Aside0.mk hc1
 clear hr1 hc1
 have H : (if (l0.length : Int) = (l1.length : Int) then (cmd_Param.l0 k l0 l1 (l0.length : Int) 0) else (some false)) = some r := h
 clear h
 by_cases c3 : (l0.length : Int) = (l1.length : Int)
 ·rw [if_pos c3] at H
  have c3b0 : ((l0.length : Int) == (l1.length : Int)) = true := beq_iff_eq.mpr c3
  have c3b1 : ((l0.length : Int) != (l1.length : Int)) = false := bne_eq_false_iff_eq.mpr c3
  have c3b2 : (l0.length == l1.length) = true := by first | simpa using c3 | (simp at c3 ⊢; omega)
  clear c3
  have H' := Aside0.mk H
  clear H
  go_enter Tryd.func33, Tryd.ntmps33
  go_wp2
  repeat (go_quiet (fail); try go_wp2)
  go_loopg [13] k (fun kq v13 w' => ∃ (x13_1 : Int), v13 = .int .i64 x13_1 ∧ Aside0 (cmd_Param.l0 kq l0 l1 (l0.length : Int) x13_1 = some r) ∧ Aside0 (kq ≤ k) ∧ Drawn0 w w')
  case atStart => exact ⟨(0), (by first | rfl | (simp; done) | (simp [*]; done)), H', ⟨Nat.le_refl _⟩, by repeat (first | exact Drawn0.refl _ | apply Drawn0.step)⟩
  case round =>
   clear H'
   try clear c1
   try clear p2
   try clear c3
   try clear c3b0
   try clear c3b1
   try clear c3b2
   obtain ⟨x13_1, rfl, HA, HK1, ⟨m1, rfl⟩⟩ := hrel
   cases gk with
   | zero => exact absurd HA.out (by simp [cmd_Param.l0])
   | succ k1 =>
    have H := HA.out
    clear HA
    simp only [cmd_Param.l0] at H
    by_cases c4 : x13_1 < (l0.length : Int)
    ·rw [if_pos c4] at H
     have c4b0 : decide (x13_1 < (l0.length : Int)) = true := decide_eq_true c4
     clear c4
     by_cases c5 : 0 ≤ x13_1
     ·rw [if_pos c5] at H
      have c5b0 : decide (0 ≤ x13_1) = true := decide_eq_true c5
      clear c5
      by_cases c6 : x13_1 < (l0.length : Int)
      ·rw [if_pos c6] at H
       have c6b0 : decide (x13_1 < (l0.length : Int)) = true := decide_eq_true c6
       clear c6
       by_cases c7 : x13_1 < (l1.length : Int)
       ·rw [if_pos c7] at H
        have c7b0 : decide (x13_1 < (l1.length : Int)) = true := decide_eq_true c7
        clear c7
        by_cases c8 : (!((((rd_T49 l0 x13_1).f0).toList) == (((rd_T49 l1 x13_1).f0).toList)) || (!((((rd_T49 l0 x13_1).f1).toList) == (((rd_T49 l1 x13_1).f1).toList)))) = true
        ·rw [if_pos c8] at H
         have c8b0 : (!((((rd_T49 l0 x13_1).f0).toList) == (((rd_T49 l1 x13_1).f0).toList)) || (!((((rd_T49 l0 x13_1).f1).toList) == (((rd_T49 l1 x13_1).f1).toList)))) = true := c8
         clear c8
         obtain rfl := Option.some.inj H
         have p235 : 0 ≤ (x13_1 : Int) := of_decide_eq_true (by first | (with_reducible assumption) | assumption)
         have q235 : x13_1 < (l0.length : Int) := of_decide_eq_true (by first | (with_reducible assumption) | assumption)
         obtain ⟨ad235, e235, hx235_0, hx235_1⟩ := at_T49 HR0.out x13_1 p235 q235
         cases e235
         replace p235 := eq_true p235
         replace q235 := eq_true q235
         have p236 : 0 ≤ (x13_1 : Int) := of_decide_eq_true (by first | (with_reducible assumption) | assumption)
         have q236 : x13_1 < (l1.length : Int) := of_decide_eq_true (by first | (with_reducible assumption) | assumption)
         obtain ⟨ad236, e236, hx236_0, hx236_1⟩ := at_T49 HR1.out x13_1 p236 q236
         cases e236
         replace p236 := eq_true p236
         replace q236 := eq_true q236
         go_wp2
         repeat (go_quiet (fail); try go_wp2)
         go_ret
         exact ⟨by first | rfl | (simp; done) | (simp [*]; done), by repeat (first | exact Drawn0.refl _ | apply Drawn0.step)⟩
        ·rw [if_neg c8] at H
         have c8b0 : (!((((rd_T49 l0 x13_1).f0).toList) == (((rd_T49 l1 x13_1).f0).toList)) || (!((((rd_T49 l0 x13_1).f1).toList) == (((rd_T49 l1 x13_1).f1).toList)))) = false := by simpa using c8
         clear c8
         have H' := Aside0.mk H
         clear H
         have p235 : 0 ≤ (x13_1 : Int) := of_decide_eq_true (by first | (with_reducible assumption) | assumption)
         have q235 : x13_1 < (l0.length : Int) := of_decide_eq_true (by first | (with_reducible assumption) | assumption)
         obtain ⟨ad235, e235, hx235_0, hx235_1⟩ := at_T49 HR0.out x13_1 p235 q235
         cases e235
         replace p235 := eq_true p235
         replace q235 := eq_true q235
         have p236 : 0 ≤ (x13_1 : Int) := of_decide_eq_true (by first | (with_reducible assumption) | assumption)
         have q236 : x13_1 < (l1.length : Int) := of_decide_eq_true (by first | (with_reducible assumption) | assumption)
         obtain ⟨ad236, e236, hx236_0, hx236_1⟩ := at_T49 HR1.out x13_1 p236 q236
         cases e236
         replace p236 := eq_true p236
         replace q236 := eq_true q236
         go_wp2
         repeat (go_quiet (fail); try go_wp2)
         go_roundg k1
         case measure => have := HK1.out; omega
         case rel => exact ⟨(wrap64 (x13_1 + 1)), (by first | rfl | (simp; done) | (simp [*]; done)), H', ⟨by have := HK1.out; omega⟩, by repeat (first | exact Drawn0.refl _ | apply Drawn0.step)⟩
       ·rw [if_neg c7] at H
        exact absurd H (by simp)
      ·rw [if_neg c6] at H
       exact absurd H (by simp)
     ·rw [if_neg c5] at H
      exact absurd H (by simp)
    ·rw [if_neg c4] at H
     have c4b0 : decide (x13_1 < (l0.length : Int)) = false := decide_eq_false c4
     clear c4
     obtain rfl := Option.some.inj H
     go_wp2
     repeat (go_quiet (fail); try go_wp2)
     go_ret
     exact ⟨by first | rfl | (simp; done) | (simp [*]; done), by repeat (first | exact Drawn0.refl _ | apply Drawn0.step)⟩
 ·rw [if_neg c3] at H
  have c3b0 : ((l0.length : Int) == (l1.length : Int)) = false := beq_eq_false_iff_ne.mpr c3
  have c3b1 : ((l0.length : Int) != (l1.length : Int)) = true := bne_iff_ne.mpr c3
  have c3b2 : (l0.length == l1.length) = false := by first | simpa using c3 | (simp at c3 ⊢; omega)
  obtain rfl := Option.some.inj H
  go_enter Tryd.func33, Tryd.ntmps33
  go_wp2
  repeat (go_quiet (fail); try go_wp2)
  go_ret
  exact ⟨by first | rfl | (simp; done) | (simp [*]; done), by repeat (first | exact Drawn0.refl _ | apply Drawn0.step)⟩
end Go.Proofs.YtljkopbalejcgaaDoor.P
end
section
namespace Go.Proofs.YtljkopbalejcgaaDoor.P
open Go.RowKit Go.Proofs.YtljkopbalejcgaaDoorW.PrintWords Go.Proofs.YtljkopbalejcgaaDoorW.PrintLast Go.Proofs.YtljkopbalejcgaaDoorW.PrintMore
attribute [local go_sem] max2_int min2_int max_two min_two max_three min_three max_four min_four
set_option linter.unusedVariables false
set_option linter.unusedSimpArgs false
def cmd_Same.f (k : Nat) (a0_0 : Int) (a0_1 : ByteArray) (l0_2 : List (S49)) (a1_0 : Int) (a1_1 : ByteArray) (l1_2 : List (S49)) : Option (Bool) := if a0_0 = a1_0 then (if a0_1.toList = a1_1.toList then ((cmd_Param.f k l0_2 l1_2).bind fun t239 => (some t239)) else (some false)) else (some false)
theorem cmd_Same.mono : ∀ a0 a1 a2 a3 a4 a5 k, LeO (cmd_Same.f k a0 a1 a2 a3 a4 a5) (cmd_Same.f (k + 1) a0 a1 a2 a3 a4 a5) := by
 intro a0 a1 a2 a3 a4 a5 k
 unfold cmd_Same.f
 repeat' first
   | (with_reducible exact cmd_Param.mono _ _ _)
   | (with_reducible exact LeO.refl _)
   | (with_reducible exact LeO.none _)
   | (with_reducible refine LeO.ite ?_ ?_)
   | (with_reducible refine LeO.bind ?_ (fun _ => ?_))
   | exact cmd_Param.mono _ _ _
   | exact LeO.none _
   | refine LeO.ite ?_ ?_
   | refine LeO.bind ?_ (fun _ => ?_)
set_option maxHeartbeats 8000000 in
set_option maxRecDepth 100000 in
theorem cmd_Same.calls (k : Nat) (a0_0 : Int) (a0_1 : ByteArray) (A0_2 : Option Addr) (c0_2 : Nat) (l0_2 : List (S49)) (a1_0 : Int) (a1_1 : ByteArray) (A1_2 : Option Addr) (c1_2 : Nat) (l1_2 : List (S49)) (r : Bool) (w : World) (hr0_2 : Kd.C k49 w A0_2 l0_2.length l0_2) (hc0_2 : l0_2.length ≤ c0_2) (hr1_2 : Kd.C k49 w A1_2 l1_2.length l1_2) (hc1_2 : l1_2.length ≤ c1_2) (h : cmd_Same.f k a0_0 a0_1 l0_2 a1_0 a1_1 l1_2 = some r) :
  Calls Tryd.prog 16 #[.agg #[.int .u8 a0_0, .string a0_1, .slice A0_2 l0_2.length c0_2], .agg #[.int .u8 a1_0, .string a1_1, .slice A1_2 l1_2.length c1_2]] w fun e w' => e = .returned (.bool r) ∧ Below w.heap.size w w' := by
 have hu27 := Tryd.underlying27
 have HR0_2 := Aside0.mk hr0_2
 have HC0_2 := Aside0.mk hc0_2
 clear hr0_2 hc0_2
 have HR1_2 := Aside0.mk hr1_2
 have HC1_2 := Aside0.mk hc1_2
 clear hr1_2 hc1_2
 have HB := Aside0.mk (Below.refl w.heap.size w)
 have H : (if a0_0 = a1_0 then (if a0_1.toList = a1_1.toList then ((cmd_Param.f k l0_2 l1_2).bind fun t239 => (some t239)) else (some false)) else (some false)) = some r := h
 clear h
 by_cases c3 : a0_0 = a1_0
 ·rw [if_pos c3] at H
  have c3b0 : (a0_0 == a1_0) = true := beq_iff_eq.mpr c3
  have c3b1 : (a0_0 != a1_0) = false := bne_eq_false_iff_eq.mpr c3
  clear c3
  by_cases c4 : a0_1.toList = a1_1.toList
  ·rw [if_pos c4] at H
   have c4b0 : (a0_1.toList == a1_1.toList) = true := beq_iff_eq.mpr c4
   have c4b1 : (a0_1.toList != a1_1.toList) = false := bne_eq_false_iff_eq.mpr c4
   clear c4
   replace H := Option.bind_eq_some_iff.mp H
   obtain ⟨t239, A50, H⟩ := H
   replace H : (some t239) = some r := H
   have A5 := Aside0.mk A50
   clear A50
   obtain rfl := Option.some.inj H
   go_enter Tryd.func16, Tryd.ntmps16
   go_wp2_with (first | ((with_reducible refine gate_dst (N := 2) rfl ?_); refine box_event ?hg (N := 2) ?hd (cs := #[.int .u8 a0_0, .string a0_1, .slice A0_2 l0_2.length c0_2]) (t := 27) ?hr ?_; (case hd => rfl); (case hg => rfl); (case hr => first | (go_simp; done) | (go_simp; rfl)); intro gb237 hg w6 hbox hb; have n0_ := Aside0.mk (below_step (by repeat (first | (with_reducible first | exact HB.out | apply below_alloc | apply pw_below_drewN | apply below_drew1) | exact HB.out)) hb); have n1_ := Aside0.mk (hbox); have n2_ := Aside0.mk ((by rw [hg]; exact (below_size (by repeat (first | (with_reducible first | exact HB.out | apply below_alloc | apply pw_below_drewN | apply below_drew1) | exact HB.out))) : w.heap.size ≤ gb237)); have n3_ := Aside0.mk ((by rw [hg]; exact (below_size (by repeat (first | (with_reducible first | exact HB.out | apply below_alloc | apply pw_below_drewN | apply below_drew1) | exact HB.out))) : w.heap.size ≤ gb237)); clear HB; have HB := n0_; have BK237 := n1_; have GW237 := n2_; have GE237 := n3_; clear n0_ n1_ n2_ n3_; clear hb hbox hg) | ((with_reducible refine gate_dst (N := 3) rfl ?_); refine box_event ?hg (N := 3) ?hd (cs := #[.int .u8 a1_0, .string a1_1, .slice A1_2 l1_2.length c1_2]) (t := 27) ?hr ?_; (case hd => rfl); (case hg => rfl); (case hr => first | (go_simp; done) | (go_simp; rfl)); intro gb238 hg w7 hbox hb; have n0_ := Aside0.mk (blk_below (g := gb237) (o := .cells #[.int .u8 a0_0, .string a0_1, .slice A0_2 l0_2.length c0_2] 27 (0, 0)) (by (with_reducible repeat (first | refine blk_drewN ?_ _ | refine blk_drew ?_ | refine blk_alloc ?_ _)); exact BK237.out) hb); have n1_ := Aside0.mk (below_step (by repeat (first | (with_reducible first | exact HB.out | apply below_alloc | apply pw_below_drewN | apply below_drew1 | refine below_set ?_ GE237.out) | exact HB.out)) hb); have n2_ := Aside0.mk (hbox); have n3_ := Aside0.mk ((by rw [hg]; exact (below_size (by repeat (first | (with_reducible first | exact HB.out | apply below_alloc | apply pw_below_drewN | apply below_drew1 | refine below_set ?_ GE237.out) | exact HB.out))) : w.heap.size ≤ gb238)); have n4_ := Aside0.mk ((by rw [hg]; exact (below_size (by repeat (first | (with_reducible first | exact HB.out | apply below_alloc | apply pw_below_drewN | apply below_drew1 | refine below_set ?_ GE237.out) | exact HB.out))) : w.heap.size ≤ gb238)); have n5_ := Aside0.mk ((by rw [hg]; exact Nat.ne_of_lt (blk_lt (g := gb237) (o := .cells #[.int .u8 a0_0, .string a0_1, .slice A0_2 l0_2.length c0_2] 27 (0, 0)) (by (with_reducible repeat (first | refine blk_drewN ?_ _ | refine blk_drew ?_ | refine blk_alloc ?_ _)); exact BK237.out)) : gb237 ≠ gb238)); have n6_ := Aside0.mk ((by rw [hg]; exact Nat.ne_of_gt (blk_lt (g := gb237) (o := .cells #[.int .u8 a0_0, .string a0_1, .slice A0_2 l0_2.length c0_2] 27 (0, 0)) (by (with_reducible repeat (first | refine blk_drewN ?_ _ | refine blk_drew ?_ | refine blk_alloc ?_ _)); exact BK237.out)) : gb238 ≠ gb237)); clear BK237; clear HB; have BK237 := n0_; have HB := n1_; have BK238 := n2_; have GW238 := n3_; have GE238 := n4_; have NB237_238 := n5_; have NB238_237 := n6_; clear n0_ n1_ n2_ n3_ n4_ n5_ n6_; clear hb hbox hg; have hnb8 := NB237_238.out; have hnc8 := NB238_237.out; have hcz9_0 : w7.cell? ⟨gb237, 0, none⟩ = some (.int .u8 a0_0) := (blk_cell BK237.out 0).trans rfl; have hcz9_1 : w7.cell? ⟨gb237, 1, none⟩ = some (.string a0_1) := (blk_cell BK237.out 1).trans rfl; have hcz9_2 : w7.cell? ⟨gb237, 2, none⟩ = some (.slice A0_2 l0_2.length c0_2) := (blk_cell BK237.out 2).trans rfl; have hfz9_0 := blk_frozen BK237.out 0; have hfz9_1 := blk_frozen BK237.out 1; have hfz9_2 := blk_frozen BK237.out 2; have hcz10_0 : w7.cell? ⟨gb238, 0, none⟩ = some (.int .u8 a1_0) := (blk_cell BK238.out 0).trans rfl; have hcz10_1 : w7.cell? ⟨gb238, 1, none⟩ = some (.string a1_1) := (blk_cell BK238.out 1).trans rfl; have hcz10_2 : w7.cell? ⟨gb238, 2, none⟩ = some (.slice A1_2 l1_2.length c1_2) := (blk_cell BK238.out 2).trans rfl; have hfz10_0 := blk_frozen BK238.out 0; have hfz10_1 := blk_frozen BK238.out 1; have hfz10_2 := blk_frozen BK238.out 2) | (go_at_call 33; (with_reducible refine (cmd_Param.calls k _ _ l0_2 _ _ l1_2 t239 _ ?side1 ?side2 ?side3 ?side4 A5.out).mono ?_); (case side1 => repeat (first | exact (Kd.C_below HR0_2.out HB.out) | (with_reducible refine Kd.C_alloc ?_ _) | (with_reducible refine Kd.C_drewN ?_ _) | (with_reducible refine Kd.C_drew ?_))); (case side2 => exact HC0_2.out); (case side3 => repeat (first | exact (Kd.C_below HR1_2.out HB.out) | (with_reducible refine Kd.C_alloc ?_ _) | (with_reducible refine Kd.C_drewN ?_ _) | (with_reducible refine Kd.C_drew ?_))); (case side4 => exact HC1_2.out); rintro e w' ⟨rfl, ⟨nd, rfl⟩⟩))
   go_ret
   exact ⟨by first | rfl | (simp [errW_none, errW_some] <;> rfl) | (simp [*, errW_none, errW_some] <;> rfl), by repeat (first | (with_reducible first | exact HB.out | apply below_alloc | apply pw_below_drewN | apply below_drew1 | refine below_set ?_ GE237.out | refine below_set ?_ GE238.out) | exact HB.out)⟩
  ·rw [if_neg c4] at H
   have c4b0 : (a0_1.toList == a1_1.toList) = false := beq_eq_false_iff_ne.mpr c4
   have c4b1 : (a0_1.toList != a1_1.toList) = true := bne_iff_ne.mpr c4
   obtain rfl := Option.some.inj H
   go_enter Tryd.func16, Tryd.ntmps16
   go_wp2_with (first | ((with_reducible refine gate_dst (N := 2) rfl ?_); refine box_event ?hg (N := 2) ?hd (cs := #[.int .u8 a0_0, .string a0_1, .slice A0_2 l0_2.length c0_2]) (t := 27) ?hr ?_; (case hd => rfl); (case hg => rfl); (case hr => first | (go_simp; done) | (go_simp; rfl)); intro gb237 hg w11 hbox hb; have n0_ := Aside0.mk (below_step (by repeat (first | (with_reducible first | exact HB.out | apply below_alloc | apply pw_below_drewN | apply below_drew1) | exact HB.out)) hb); have n1_ := Aside0.mk (hbox); have n2_ := Aside0.mk ((by rw [hg]; exact (below_size (by repeat (first | (with_reducible first | exact HB.out | apply below_alloc | apply pw_below_drewN | apply below_drew1) | exact HB.out))) : w.heap.size ≤ gb237)); have n3_ := Aside0.mk ((by rw [hg]; exact (below_size (by repeat (first | (with_reducible first | exact HB.out | apply below_alloc | apply pw_below_drewN | apply below_drew1) | exact HB.out))) : w.heap.size ≤ gb237)); clear HB; have HB := n0_; have BK237 := n1_; have GW237 := n2_; have GE237 := n3_; clear n0_ n1_ n2_ n3_; clear hb hbox hg) | ((with_reducible refine gate_dst (N := 3) rfl ?_); refine box_event ?hg (N := 3) ?hd (cs := #[.int .u8 a1_0, .string a1_1, .slice A1_2 l1_2.length c1_2]) (t := 27) ?hr ?_; (case hd => rfl); (case hg => rfl); (case hr => first | (go_simp; done) | (go_simp; rfl)); intro gb238 hg w12 hbox hb; have n0_ := Aside0.mk (blk_below (g := gb237) (o := .cells #[.int .u8 a0_0, .string a0_1, .slice A0_2 l0_2.length c0_2] 27 (0, 0)) (by (with_reducible repeat (first | refine blk_drewN ?_ _ | refine blk_drew ?_ | refine blk_alloc ?_ _)); exact BK237.out) hb); have n1_ := Aside0.mk (below_step (by repeat (first | (with_reducible first | exact HB.out | apply below_alloc | apply pw_below_drewN | apply below_drew1 | refine below_set ?_ GE237.out) | exact HB.out)) hb); have n2_ := Aside0.mk (hbox); have n3_ := Aside0.mk ((by rw [hg]; exact (below_size (by repeat (first | (with_reducible first | exact HB.out | apply below_alloc | apply pw_below_drewN | apply below_drew1 | refine below_set ?_ GE237.out) | exact HB.out))) : w.heap.size ≤ gb238)); have n4_ := Aside0.mk ((by rw [hg]; exact (below_size (by repeat (first | (with_reducible first | exact HB.out | apply below_alloc | apply pw_below_drewN | apply below_drew1 | refine below_set ?_ GE237.out) | exact HB.out))) : w.heap.size ≤ gb238)); have n5_ := Aside0.mk ((by rw [hg]; exact Nat.ne_of_lt (blk_lt (g := gb237) (o := .cells #[.int .u8 a0_0, .string a0_1, .slice A0_2 l0_2.length c0_2] 27 (0, 0)) (by (with_reducible repeat (first | refine blk_drewN ?_ _ | refine blk_drew ?_ | refine blk_alloc ?_ _)); exact BK237.out)) : gb237 ≠ gb238)); have n6_ := Aside0.mk ((by rw [hg]; exact Nat.ne_of_gt (blk_lt (g := gb237) (o := .cells #[.int .u8 a0_0, .string a0_1, .slice A0_2 l0_2.length c0_2] 27 (0, 0)) (by (with_reducible repeat (first | refine blk_drewN ?_ _ | refine blk_drew ?_ | refine blk_alloc ?_ _)); exact BK237.out)) : gb238 ≠ gb237)); clear BK237; clear HB; have BK237 := n0_; have HB := n1_; have BK238 := n2_; have GW238 := n3_; have GE238 := n4_; have NB237_238 := n5_; have NB238_237 := n6_; clear n0_ n1_ n2_ n3_ n4_ n5_ n6_; clear hb hbox hg; have hnb13 := NB237_238.out; have hnc13 := NB238_237.out; have hcz14_0 : w12.cell? ⟨gb237, 0, none⟩ = some (.int .u8 a0_0) := (blk_cell BK237.out 0).trans rfl; have hcz14_1 : w12.cell? ⟨gb237, 1, none⟩ = some (.string a0_1) := (blk_cell BK237.out 1).trans rfl; have hcz14_2 : w12.cell? ⟨gb237, 2, none⟩ = some (.slice A0_2 l0_2.length c0_2) := (blk_cell BK237.out 2).trans rfl; have hfz14_0 := blk_frozen BK237.out 0; have hfz14_1 := blk_frozen BK237.out 1; have hfz14_2 := blk_frozen BK237.out 2; have hcz15_0 : w12.cell? ⟨gb238, 0, none⟩ = some (.int .u8 a1_0) := (blk_cell BK238.out 0).trans rfl; have hcz15_1 : w12.cell? ⟨gb238, 1, none⟩ = some (.string a1_1) := (blk_cell BK238.out 1).trans rfl; have hcz15_2 : w12.cell? ⟨gb238, 2, none⟩ = some (.slice A1_2 l1_2.length c1_2) := (blk_cell BK238.out 2).trans rfl; have hfz15_0 := blk_frozen BK238.out 0; have hfz15_1 := blk_frozen BK238.out 1; have hfz15_2 := blk_frozen BK238.out 2))
   go_ret
   exact ⟨by first | rfl | (simp [errW_none, errW_some] <;> rfl) | (simp [*, errW_none, errW_some] <;> rfl), by repeat (first | (with_reducible first | exact HB.out | apply below_alloc | apply pw_below_drewN | apply below_drew1 | refine below_set ?_ GE237.out | refine below_set ?_ GE238.out) | exact HB.out)⟩
 ·rw [if_neg c3] at H
  have c3b0 : (a0_0 == a1_0) = false := beq_eq_false_iff_ne.mpr c3
  have c3b1 : (a0_0 != a1_0) = true := bne_iff_ne.mpr c3
  obtain rfl := Option.some.inj H
  go_enter Tryd.func16, Tryd.ntmps16
  go_wp2_with (first | ((with_reducible refine gate_dst (N := 2) rfl ?_); refine box_event ?hg (N := 2) ?hd (cs := #[.int .u8 a0_0, .string a0_1, .slice A0_2 l0_2.length c0_2]) (t := 27) ?hr ?_; (case hd => rfl); (case hg => rfl); (case hr => first | (go_simp; done) | (go_simp; rfl)); intro gb237 hg w16 hbox hb; have n0_ := Aside0.mk (below_step (by repeat (first | (with_reducible first | exact HB.out | apply below_alloc | apply pw_below_drewN | apply below_drew1) | exact HB.out)) hb); have n1_ := Aside0.mk (hbox); have n2_ := Aside0.mk ((by rw [hg]; exact (below_size (by repeat (first | (with_reducible first | exact HB.out | apply below_alloc | apply pw_below_drewN | apply below_drew1) | exact HB.out))) : w.heap.size ≤ gb237)); have n3_ := Aside0.mk ((by rw [hg]; exact (below_size (by repeat (first | (with_reducible first | exact HB.out | apply below_alloc | apply pw_below_drewN | apply below_drew1) | exact HB.out))) : w.heap.size ≤ gb237)); clear HB; have HB := n0_; have BK237 := n1_; have GW237 := n2_; have GE237 := n3_; clear n0_ n1_ n2_ n3_; clear hb hbox hg) | ((with_reducible refine gate_dst (N := 3) rfl ?_); refine box_event ?hg (N := 3) ?hd (cs := #[.int .u8 a1_0, .string a1_1, .slice A1_2 l1_2.length c1_2]) (t := 27) ?hr ?_; (case hd => rfl); (case hg => rfl); (case hr => first | (go_simp; done) | (go_simp; rfl)); intro gb238 hg w17 hbox hb; have n0_ := Aside0.mk (blk_below (g := gb237) (o := .cells #[.int .u8 a0_0, .string a0_1, .slice A0_2 l0_2.length c0_2] 27 (0, 0)) (by (with_reducible repeat (first | refine blk_drewN ?_ _ | refine blk_drew ?_ | refine blk_alloc ?_ _)); exact BK237.out) hb); have n1_ := Aside0.mk (below_step (by repeat (first | (with_reducible first | exact HB.out | apply below_alloc | apply pw_below_drewN | apply below_drew1 | refine below_set ?_ GE237.out) | exact HB.out)) hb); have n2_ := Aside0.mk (hbox); have n3_ := Aside0.mk ((by rw [hg]; exact (below_size (by repeat (first | (with_reducible first | exact HB.out | apply below_alloc | apply pw_below_drewN | apply below_drew1 | refine below_set ?_ GE237.out) | exact HB.out))) : w.heap.size ≤ gb238)); have n4_ := Aside0.mk ((by rw [hg]; exact (below_size (by repeat (first | (with_reducible first | exact HB.out | apply below_alloc | apply pw_below_drewN | apply below_drew1 | refine below_set ?_ GE237.out) | exact HB.out))) : w.heap.size ≤ gb238)); have n5_ := Aside0.mk ((by rw [hg]; exact Nat.ne_of_lt (blk_lt (g := gb237) (o := .cells #[.int .u8 a0_0, .string a0_1, .slice A0_2 l0_2.length c0_2] 27 (0, 0)) (by (with_reducible repeat (first | refine blk_drewN ?_ _ | refine blk_drew ?_ | refine blk_alloc ?_ _)); exact BK237.out)) : gb237 ≠ gb238)); have n6_ := Aside0.mk ((by rw [hg]; exact Nat.ne_of_gt (blk_lt (g := gb237) (o := .cells #[.int .u8 a0_0, .string a0_1, .slice A0_2 l0_2.length c0_2] 27 (0, 0)) (by (with_reducible repeat (first | refine blk_drewN ?_ _ | refine blk_drew ?_ | refine blk_alloc ?_ _)); exact BK237.out)) : gb238 ≠ gb237)); clear BK237; clear HB; have BK237 := n0_; have HB := n1_; have BK238 := n2_; have GW238 := n3_; have GE238 := n4_; have NB237_238 := n5_; have NB238_237 := n6_; clear n0_ n1_ n2_ n3_ n4_ n5_ n6_; clear hb hbox hg; have hnb18 := NB237_238.out; have hnc18 := NB238_237.out; have hcz19_0 : w17.cell? ⟨gb237, 0, none⟩ = some (.int .u8 a0_0) := (blk_cell BK237.out 0).trans rfl; have hcz19_1 : w17.cell? ⟨gb237, 1, none⟩ = some (.string a0_1) := (blk_cell BK237.out 1).trans rfl; have hcz19_2 : w17.cell? ⟨gb237, 2, none⟩ = some (.slice A0_2 l0_2.length c0_2) := (blk_cell BK237.out 2).trans rfl; have hfz19_0 := blk_frozen BK237.out 0; have hfz19_1 := blk_frozen BK237.out 1; have hfz19_2 := blk_frozen BK237.out 2; have hcz20_0 : w17.cell? ⟨gb238, 0, none⟩ = some (.int .u8 a1_0) := (blk_cell BK238.out 0).trans rfl; have hcz20_1 : w17.cell? ⟨gb238, 1, none⟩ = some (.string a1_1) := (blk_cell BK238.out 1).trans rfl; have hcz20_2 : w17.cell? ⟨gb238, 2, none⟩ = some (.slice A1_2 l1_2.length c1_2) := (blk_cell BK238.out 2).trans rfl; have hfz20_0 := blk_frozen BK238.out 0; have hfz20_1 := blk_frozen BK238.out 1; have hfz20_2 := blk_frozen BK238.out 2))
  go_ret
  exact ⟨by first | rfl | (simp [errW_none, errW_some] <;> rfl) | (simp [*, errW_none, errW_some] <;> rfl), by repeat (first | (with_reducible first | exact HB.out | apply below_alloc | apply pw_below_drewN | apply below_drew1 | refine below_set ?_ GE237.out | refine below_set ?_ GE238.out) | exact HB.out)⟩
end Go.Proofs.YtljkopbalejcgaaDoor.P
end
section
namespace Go.Proofs.YtljkopbalejcgaaDoor.P
open Go.RowKit Go.Proofs.YtljkopbalejcgaaDoorW.PrintWords Go.Proofs.YtljkopbalejcgaaDoorW.PrintLast Go.Proofs.YtljkopbalejcgaaDoorW.PrintMore
attribute [local go_sem] max2_int min2_int max_two min_two max_three min_three max_four min_four
set_option linter.unusedVariables false
set_option linter.unusedSimpArgs false
def mailroomref07_great.f (a0 : Int) : Option (Int) := if a0 ≥ 97 then (if a0 ≤ 122 then (some ((a0 - 32) % 256)) else (some a0)) else (some a0)
set_option maxHeartbeats 8000000 in
set_option maxRecDepth 100000 in
theorem mailroomref07_great.calls (a0 : Int) (r : Int) (w : World) (h : mailroomref07_great.f a0 = some r) :
  Calls Tryd.prog 37 #[.int .u8 a0] w fun e w' => e = .returned (.int .u8 r) ∧ Drawn0 w w' := by
 have H : (if a0 ≥ 97 then (if a0 ≤ 122 then (some ((a0 - 32) % 256)) else (some a0)) else (some a0)) = some r := h
 clear h
 by_cases c2 : a0 ≥ 97
 ·rw [if_pos c2] at H
  have c2b0 : decide (97 ≤ a0) = true := decide_eq_true c2
  clear c2
  by_cases c3 : a0 ≤ 122
  ·rw [if_pos c3] at H
   have c3b0 : decide (a0 ≤ 122) = true := decide_eq_true c3
   clear c3
   obtain rfl := Option.some.inj H
   go_enter Tryd.func37, Tryd.ntmps37
   go_wp2
   go_ret
   exact ⟨by first | rfl | (simp; done) | (simp [*]; done), by repeat (first | exact Drawn0.refl _ | apply Drawn0.step)⟩
  ·rw [if_neg c3] at H
   have c3b0 : decide (a0 ≤ 122) = false := decide_eq_false c3
   clear c3
   obtain rfl := Option.some.inj H
   go_enter Tryd.func37, Tryd.ntmps37
   go_wp2
   go_ret
   exact ⟨by first | rfl | (simp; done) | (simp [*]; done), by repeat (first | exact Drawn0.refl _ | apply Drawn0.step)⟩
 ·rw [if_neg c2] at H
  have c2b0 : decide (97 ≤ a0) = false := decide_eq_false c2
  clear c2
  obtain rfl := Option.some.inj H
  go_enter Tryd.func37, Tryd.ntmps37
  go_wp2
  go_ret
  exact ⟨by first | rfl | (simp; done) | (simp [*]; done), by repeat (first | exact Drawn0.refl _ | apply Drawn0.step)⟩
end Go.Proofs.YtljkopbalejcgaaDoor.P
end
section
namespace Go.Proofs.YtljkopbalejcgaaDoor.P
open Go.RowKit Go.Proofs.YtljkopbalejcgaaDoorW.PrintWords Go.Proofs.YtljkopbalejcgaaDoorW.PrintLast Go.Proofs.YtljkopbalejcgaaDoorW.PrintMore
attribute [local go_sem] max2_int min2_int max_two min_two max_three min_three max_four min_four
set_option linter.unusedVariables false
set_option linter.unusedSimpArgs false
open Go Go.Lib
theorem upper_g (c : UInt8) : mailroomref07_great.f (c.toNat : Int) = some ((upper c).toNat : Int) := by
 have hb : (c.toNat : Int) ≤ 255 := by have := c.toNat_lt; omega
 unfold mailroomref07_great.f
 by_cases h : (97 : Int) ≤ (c.toNat : Int) ∧ (c.toNat : Int) ≤ 122
 ·rw [if_pos h.1, if_pos h.2, upper_t h]
  congr 1; omega
 ·rw [upper_f (by omega)]
  by_cases h1 : (97 : Int) ≤ (c.toNat : Int)
  ·rw [if_pos h1, if_neg (by omega)]
  ·rw [if_neg (by omega)]
set_option maxHeartbeats 2000000 in
set_option maxRecDepth 100000 in
theorem refgreat_any (s : ByteArray) (w : World) (hs : s.size ≤ 140737488351232) :
  Calls Tryd.prog 18 #[.string s] w fun e w' => e = .returned (.string ⟨(s.data.toList.map upper).toArray⟩) ∧ Below w.heap.size w w' := by
 have hcv := _root_.Go.Lib.run_convert_string_bytes (P := Tryd.prog) w 9 59 5 s Tryd.underlying9 Tryd.underlying59 Tryd.underlying5
 have hrow := brow_conv w 5 s
 have hbel := below_conv w 5 s
 have hl := len_eq s
 generalize bytesWorld w 5 s = W1 at hcv hrow hbel
 generalize grownCap w s.size 0 5 = cap at hcv
 generalize s.data.toList = l at hrow hl ⊢
 have HR : Aside0 (BRow W1 w.heap.size l) := ⟨hrow⟩
 have HB : Aside0 (Below w.heap.size w W1) := ⟨hbel⟩
 have HL := Lib.hid hl
 clear hrow hbel hl
 go_enter Tryd.func18, Tryd.ntmps18
 go_wp2
 go_loopg [4] s.size (fun gk i wr => ∃ k : Nat, k ≤ s.size ∧ s.size - k ≤ gk ∧ i = .int .i64 k ∧ Aside0 (BRow wr w.heap.size (turned upper l k)) ∧ Aside0 (Below w.heap.size w wr))
 case atStart => exact ⟨0, by omega, by omega, rfl, ⟨by rw [turned_zero]; exact HR.out⟩, HB⟩
 case round =>
  clear HR HB hcv
  obtain ⟨k, hk, hg, rfl, HR, HB⟩ := hrel
  by_cases hlt : k < s.size
  ·have hlt' : k < l.length := by rw [HL.out]; exact hlt
   have hat := turned_at upper l k hlt'
   have hcell := HR.out k (by rw [turned_len]; exact hlt')
   rw [hat] at hcell
   obtain ⟨hc, hf⟩ := hcell
   have HS := Lib.hid (turned_succ upper l k hlt')
   have HK := Lib.hid (turned_keep upper l k hlt')
   have hg1 := upper_g l[k]
   generalize l[k] = c at hc HS HK hg1
   clear hat HK
   have hb : 0 ≤ (c.toNat : Int) ∧ (c.toNat : Int) ≤ 255 := by have := c.toNat_lt; omega
   have hcall := fun W => mailroomref07_great.calls (c.toNat : Int) _ W hg1
   clear hg1
   go_wp2_with (go_at_call 37; refine (hcall _).mono ?_; rintro e w' ⟨rfl, ⟨nd, rfl⟩⟩)
   go_roundg (s.size - (k + 1))
   case measure => omega
   case rel => exact ⟨k + 1, by omega, by omega, by go_num, ⟨by rw [← HS.out]; exact brow_set (W := wr.drewN nd) HR.out k (by rw [turned_len]; exact hlt') (upper c)⟩, ⟨(pw_below_drewN HB.out nd).setCell (p := ⟨w.heap.size, k, none⟩) (Nat.le_refl _) _⟩⟩
  ·have e : k = s.size := by omega
   subst e
   have hs2 := brow_str (P := Tryd.prog) HR.out 59 5 9 Tryd.underlying59 Tryd.underlying5 Tryd.underlying9 cap
   rw [turned_len, HL.out, show turned upper l s.size = l.map upper by rw [← HL.out]; exact turned_all upper l] at hs2
   go_wp2
   go_ret
   exact ⟨rfl, HB.out⟩
def mailroomref07_Great.f (a : ByteArray) : Option ByteArray := if a.size ≤ 140737488351232 then some ⟨(a.data.toList.map upper).toArray⟩ else none
theorem mailroomref07_Great.calls (a : ByteArray) (r : ByteArray) (w : World) (h : mailroomref07_Great.f a = some r) :
  Calls Tryd.prog 18 #[.string a] w fun e w' => e = .returned (.string r) ∧ Below w.heap.size w w' := by
 unfold mailroomref07_Great.f at h
 split at h
 ·rename_i hs
  obtain rfl := Option.some.inj h
  exact refgreat_any a w hs
 ·simp at h
end Go.Proofs.YtljkopbalejcgaaDoor.P
end
section
namespace Go.Proofs.YtljkopbalejcgaaDoor.P
open Go.RowKit Go.Proofs.YtljkopbalejcgaaDoorW.PrintWords Go.Proofs.YtljkopbalejcgaaDoorW.PrintLast Go.Proofs.YtljkopbalejcgaaDoorW.PrintMore
attribute [local go_sem] max2_int min2_int max_two min_two max_three min_three max_four min_four
set_option linter.unusedVariables false
set_option linter.unusedSimpArgs false
mutual
def mailroomlaw07_CmdLine.j0 : Nat → Bool → Int → ByteArray → List (S49) → Int → ByteArray → List (S49) → Option (Bool)
 | 0, _, _, _, _, _, _, _ => none
 | k + 1, x19, x241000, x241001, x241002, x242000, x242001, x242002 => if x19 = true then ((mailroomlaw07_awake.f k).bind fun t245 => (some t245)) else ((cmd_Show.f x241000 x241001 x241002).bind fun bt246 => ((cmd_Show.f x242000 x242001 x242002).bind fun bt248 => (if bt246.2 = 0 then (mailroomlaw07_CmdLine.j1 k bt246.1 bt246.2 bt248.1 (bt248.2 != 0) x241000 x241001 x241002 x242000 x242001 x242002) else (mailroomlaw07_CmdLine.j1 k bt246.1 bt246.2 bt248.1 true x241000 x241001 x241002 x242000 x242001 x242002))))
def mailroomlaw07_CmdLine.j1 : Nat → ByteArray → Int → ByteArray → Bool → Int → ByteArray → List (S49) → Int → ByteArray → List (S49) → Option (Bool)
 | 0, _, _, _, _, _, _, _, _, _, _ => none
 | k + 1, x5, x6, x7, x36, x241000, x241001, x241002, x242000, x242001, x242002 => if x36 = true then (some ((x6 == 0) == (!x5.toList.isEmpty))) else (mailroomlaw07_CmdLine.l0 k x5 x7 0 x241000 x241001 x241002 x242000 x242001 x242002)
def mailroomlaw07_CmdLine.l0 : Nat → ByteArray → ByteArray → Int → Int → ByteArray → List (S49) → Int → ByteArray → List (S49) → Option (Bool)
 | 0, _, _, _, _, _, _, _, _, _ => none
 | k + 1, x5, x7, x9, x241000, x241001, x241002, x242000, x242001, x242002 => if x9 < (x5.size : Int) then (if 0 ≤ x9 then (if (bt x5 x9) < 32 then (some false) else (if (bt x5 x9) > 126 then (some false) else (mailroomlaw07_CmdLine.l0 k x5 x7 (wrap64 (x9 + 1)) x241000 x241001 x241002 x242000 x242001 x242002))) else (none)) else (if (x5.size : Int) ≤ 510 then ((cmd_Same.f k x241000 x241001 x241002 x242000 x242001 x242002).bind fun t250 => (if ((x5.toList == x7.toList) == t250) = true then (if x241000 = x242000 then (some true) else ((mailroomref07_Great.f x5).bind fun t251 => ((mailroomref07_Great.f x7).bind fun t252 => (some (t251.toList != t252.toList))))) else (some false))) else (some false))
end
def mailroomlaw07_CmdLine.f (k : Nat) (a0_0 : Int) (a0_1 : ByteArray) (l0_2 : List (S49)) (a1_0 : Int) (a1_1 : ByteArray) (l1_2 : List (S49)) : Option (Bool) := (mailroomlaw07_long.f k a0_0 a0_1 l0_2).bind fun t242 => (if t242 = true then (mailroomlaw07_CmdLine.j0 k true a0_0 a0_1 l0_2 a1_0 a1_1 l1_2) else ((mailroomlaw07_long.f k a1_0 a1_1 l1_2).bind fun t243 => (if t243 = true then (mailroomlaw07_CmdLine.j0 k true a0_0 a0_1 l0_2 a1_0 a1_1 l1_2) else ((mailroomlaw07_awake.f k).bind fun t244 => (mailroomlaw07_CmdLine.j0 k (!t244) a0_0 a0_1 l0_2 a1_0 a1_1 l1_2)))))
theorem mailroomlaw07_CmdLine.mono_l : ∀ k, (∀ y0 y1 y2 y3 y4 y5 y6, LeO (mailroomlaw07_CmdLine.j0 k y0 y1 y2 y3 y4 y5 y6) (mailroomlaw07_CmdLine.j0 (k + 1) y0 y1 y2 y3 y4 y5 y6)) ∧ (∀ y0 y1 y2 y3 y4 y5 y6 y7 y8 y9, LeO (mailroomlaw07_CmdLine.j1 k y0 y1 y2 y3 y4 y5 y6 y7 y8 y9) (mailroomlaw07_CmdLine.j1 (k + 1) y0 y1 y2 y3 y4 y5 y6 y7 y8 y9)) ∧ (∀ y0 y1 y2 y3 y4 y5 y6 y7 y8, LeO (mailroomlaw07_CmdLine.l0 k y0 y1 y2 y3 y4 y5 y6 y7 y8) (mailroomlaw07_CmdLine.l0 (k + 1) y0 y1 y2 y3 y4 y5 y6 y7 y8))
 | 0 => ⟨fun _ _ _ _ _ _ _ r h => by simp [mailroomlaw07_CmdLine.j0] at h, fun _ _ _ _ _ _ _ _ _ _ r h => by simp [mailroomlaw07_CmdLine.j1] at h, fun _ _ _ _ _ _ _ _ _ r h => by simp [mailroomlaw07_CmdLine.l0] at h⟩
 | k + 1 => by
  obtain ⟨ih0, ih1, ih2⟩ := mailroomlaw07_CmdLine.mono_l k
  refine ⟨?_, ?_, ?_⟩
  ·intro y0 y1 y2 y3 y4 y5 y6
   unfold mailroomlaw07_CmdLine.j0
   repeat' first
   | (with_reducible exact ih0 _ _ _ _ _ _ _)
   | (with_reducible exact ih1 _ _ _ _ _ _ _ _ _ _)
   | (with_reducible exact ih2 _ _ _ _ _ _ _ _ _)
   | (with_reducible exact cmd_Same.mono _ _ _ _ _ _ _)
   | (with_reducible exact mailroomlaw07_awake.mono _)
   | (with_reducible exact mailroomlaw07_long.mono _ _ _ _)
   | (with_reducible exact LeO.refl _)
   | (with_reducible exact LeO.none _)
   | (with_reducible refine LeO.ite ?_ ?_)
   | (with_reducible refine LeO.bind ?_ (fun _ => ?_))
   | exact ih0 _ _ _ _ _ _ _
   | exact ih1 _ _ _ _ _ _ _ _ _ _
   | exact ih2 _ _ _ _ _ _ _ _ _
   | exact cmd_Same.mono _ _ _ _ _ _ _
   | exact mailroomlaw07_awake.mono _
   | exact mailroomlaw07_long.mono _ _ _ _
   | exact LeO.none _
   | refine LeO.ite ?_ ?_
   | refine LeO.bind ?_ (fun _ => ?_)
  ·intro y0 y1 y2 y3 y4 y5 y6 y7 y8 y9
   unfold mailroomlaw07_CmdLine.j1
   repeat' first
   | (with_reducible exact ih0 _ _ _ _ _ _ _)
   | (with_reducible exact ih1 _ _ _ _ _ _ _ _ _ _)
   | (with_reducible exact ih2 _ _ _ _ _ _ _ _ _)
   | (with_reducible exact cmd_Same.mono _ _ _ _ _ _ _)
   | (with_reducible exact mailroomlaw07_awake.mono _)
   | (with_reducible exact mailroomlaw07_long.mono _ _ _ _)
   | (with_reducible exact LeO.refl _)
   | (with_reducible exact LeO.none _)
   | (with_reducible refine LeO.ite ?_ ?_)
   | (with_reducible refine LeO.bind ?_ (fun _ => ?_))
   | exact ih0 _ _ _ _ _ _ _
   | exact ih1 _ _ _ _ _ _ _ _ _ _
   | exact ih2 _ _ _ _ _ _ _ _ _
   | exact cmd_Same.mono _ _ _ _ _ _ _
   | exact mailroomlaw07_awake.mono _
   | exact mailroomlaw07_long.mono _ _ _ _
   | exact LeO.none _
   | refine LeO.ite ?_ ?_
   | refine LeO.bind ?_ (fun _ => ?_)
  ·intro y0 y1 y2 y3 y4 y5 y6 y7 y8
   unfold mailroomlaw07_CmdLine.l0
   repeat' first
   | (with_reducible exact ih0 _ _ _ _ _ _ _)
   | (with_reducible exact ih1 _ _ _ _ _ _ _ _ _ _)
   | (with_reducible exact ih2 _ _ _ _ _ _ _ _ _)
   | (with_reducible exact cmd_Same.mono _ _ _ _ _ _ _)
   | (with_reducible exact mailroomlaw07_awake.mono _)
   | (with_reducible exact mailroomlaw07_long.mono _ _ _ _)
   | (with_reducible exact LeO.refl _)
   | (with_reducible exact LeO.none _)
   | (with_reducible refine LeO.ite ?_ ?_)
   | (with_reducible refine LeO.bind ?_ (fun _ => ?_))
   | exact ih0 _ _ _ _ _ _ _
   | exact ih1 _ _ _ _ _ _ _ _ _ _
   | exact ih2 _ _ _ _ _ _ _ _ _
   | exact cmd_Same.mono _ _ _ _ _ _ _
   | exact mailroomlaw07_awake.mono _
   | exact mailroomlaw07_long.mono _ _ _ _
   | exact LeO.none _
   | refine LeO.ite ?_ ?_
   | refine LeO.bind ?_ (fun _ => ?_)
theorem mailroomlaw07_CmdLine.mono : ∀ a0 a1 a2 a3 a4 a5 k, LeO (mailroomlaw07_CmdLine.f k a0 a1 a2 a3 a4 a5) (mailroomlaw07_CmdLine.f (k + 1) a0 a1 a2 a3 a4 a5) := by
 intro a0 a1 a2 a3 a4 a5 k
 obtain ⟨ih0, ih1, ih2⟩ := mailroomlaw07_CmdLine.mono_l k
 unfold mailroomlaw07_CmdLine.f
 repeat' first
   | (with_reducible exact ih0 _ _ _ _ _ _ _)
   | (with_reducible exact ih1 _ _ _ _ _ _ _ _ _ _)
   | (with_reducible exact ih2 _ _ _ _ _ _ _ _ _)
   | (with_reducible exact cmd_Same.mono _ _ _ _ _ _ _)
   | (with_reducible exact mailroomlaw07_awake.mono _)
   | (with_reducible exact mailroomlaw07_long.mono _ _ _ _)
   | (with_reducible exact LeO.refl _)
   | (with_reducible exact LeO.none _)
   | (with_reducible refine LeO.ite ?_ ?_)
   | (with_reducible refine LeO.bind ?_ (fun _ => ?_))
   | exact ih0 _ _ _ _ _ _ _
   | exact ih1 _ _ _ _ _ _ _ _ _ _
   | exact ih2 _ _ _ _ _ _ _ _ _
   | exact cmd_Same.mono _ _ _ _ _ _ _
   | exact mailroomlaw07_awake.mono _
   | exact mailroomlaw07_long.mono _ _ _ _
   | exact LeO.none _
   | refine LeO.ite ?_ ?_
   | refine LeO.bind ?_ (fun _ => ?_)
set_option maxHeartbeats 8000000 in
set_option maxRecDepth 100000 in
theorem mailroomlaw07_CmdLine.calls (k : Nat) (a0_0 : Int) (a0_1 : ByteArray) (A0_2 : Option Addr) (c0_2 : Nat) (l0_2 : List (S49)) (a1_0 : Int) (a1_1 : ByteArray) (A1_2 : Option Addr) (c1_2 : Nat) (l1_2 : List (S49)) (r : Bool) (w : World) (hr0_2 : Kd.C k49 w A0_2 l0_2.length l0_2) (hc0_2 : l0_2.length ≤ c0_2) (hr1_2 : Kd.C k49 w A1_2 l1_2.length l1_2) (hc1_2 : l1_2.length ≤ c1_2) (h : mailroomlaw07_CmdLine.f k a0_0 a0_1 l0_2 a1_0 a1_1 l1_2 = some r) (hG : GL w) :
  Calls Tryd.prog 5 #[.agg #[.int .u8 a0_0, .string a0_1, .slice A0_2 l0_2.length c0_2], .agg #[.int .u8 a1_0, .string a1_1, .slice A1_2 l1_2.length c1_2]] w fun e w' => e = .returned (.bool r) ∧ Below w.heap.size w w' := by
 have hu27 := Tryd.underlying27
 have HR0_2 := Aside0.mk hr0_2
 have HC0_2 := Aside0.mk hc0_2
 clear hr0_2 hc0_2
 have HR1_2 := Aside0.mk hr1_2
 have HC1_2 := Aside0.mk hc1_2
 clear hr1_2 hc1_2
 have HB := Aside0.mk (Below.refl w.heap.size w)
 have H : ((mailroomlaw07_long.f k a0_0 a0_1 l0_2).bind fun t242 => (if t242 = true then (mailroomlaw07_CmdLine.j0 k true a0_0 a0_1 l0_2 a1_0 a1_1 l1_2) else ((mailroomlaw07_long.f k a1_0 a1_1 l1_2).bind fun t243 => (if t243 = true then (mailroomlaw07_CmdLine.j0 k true a0_0 a0_1 l0_2 a1_0 a1_1 l1_2) else ((mailroomlaw07_awake.f k).bind fun t244 => (mailroomlaw07_CmdLine.j0 k (!t244) a0_0 a0_1 l0_2 a1_0 a1_1 l1_2)))))) = some r := h
 clear h
 have HC3 := Aside0.mk H
 clear H
 go_enter Tryd.func5, Tryd.ntmps5
 go_upto_region 1 with (first | ((with_reducible refine gate_dst (N := 2) rfl ?_); refine box_event ?hg (N := 2) ?hd (cs := #[.int .u8 a0_0, .string a0_1, .slice A0_2 l0_2.length c0_2]) (t := 27) ?hr ?_; (case hd => rfl); (case hg => rfl); (case hr => first | (go_simp; done) | (go_simp; rfl)); intro gb240 hg w4 hbox hb; have n0_ := Aside0.mk (below_step (by repeat (first | (with_reducible first | exact HB.out | apply below_alloc | apply pw_below_drewN | apply below_drew1) | exact HB.out)) hb); have n1_ := Aside0.mk (hbox); have n2_ := Aside0.mk ((by rw [hg]; exact (below_size (by repeat (first | (with_reducible first | exact HB.out | apply below_alloc | apply pw_below_drewN | apply below_drew1) | exact HB.out))) : w.heap.size ≤ gb240)); have n3_ := Aside0.mk ((by rw [hg]; exact (below_size (by repeat (first | (with_reducible first | exact HB.out | apply below_alloc | apply pw_below_drewN | apply below_drew1) | exact HB.out))) : w.heap.size ≤ gb240)); clear HB; have HB := n0_; have BK240 := n1_; have GW240 := n2_; have GE240 := n3_; clear n0_ n1_ n2_ n3_; clear hb hbox hg) | ((with_reducible refine gate_dst (N := 3) rfl ?_); refine box_event ?hg (N := 3) ?hd (cs := #[.int .u8 a1_0, .string a1_1, .slice A1_2 l1_2.length c1_2]) (t := 27) ?hr ?_; (case hd => rfl); (case hg => rfl); (case hr => first | (go_simp; done) | (go_simp; rfl)); intro gb241 hg w5 hbox hb; have n0_ := Aside0.mk (blk_below (g := gb240) (o := .cells #[.int .u8 a0_0, .string a0_1, .slice A0_2 l0_2.length c0_2] 27 (0, 0)) (by (with_reducible repeat (first | refine blk_drewN ?_ _ | refine blk_drew ?_ | refine blk_alloc ?_ _)); exact BK240.out) hb); have n1_ := Aside0.mk (below_step (by repeat (first | (with_reducible first | exact HB.out | apply below_alloc | apply pw_below_drewN | apply below_drew1 | refine below_set ?_ GE240.out) | exact HB.out)) hb); have n2_ := Aside0.mk (hbox); have n3_ := Aside0.mk ((by rw [hg]; exact (below_size (by repeat (first | (with_reducible first | exact HB.out | apply below_alloc | apply pw_below_drewN | apply below_drew1 | refine below_set ?_ GE240.out) | exact HB.out))) : w.heap.size ≤ gb241)); have n4_ := Aside0.mk ((by rw [hg]; exact (below_size (by repeat (first | (with_reducible first | exact HB.out | apply below_alloc | apply pw_below_drewN | apply below_drew1 | refine below_set ?_ GE240.out) | exact HB.out))) : w.heap.size ≤ gb241)); have n5_ := Aside0.mk ((by rw [hg]; exact Nat.ne_of_lt (blk_lt (g := gb240) (o := .cells #[.int .u8 a0_0, .string a0_1, .slice A0_2 l0_2.length c0_2] 27 (0, 0)) (by (with_reducible repeat (first | refine blk_drewN ?_ _ | refine blk_drew ?_ | refine blk_alloc ?_ _)); exact BK240.out)) : gb240 ≠ gb241)); have n6_ := Aside0.mk ((by rw [hg]; exact Nat.ne_of_gt (blk_lt (g := gb240) (o := .cells #[.int .u8 a0_0, .string a0_1, .slice A0_2 l0_2.length c0_2] 27 (0, 0)) (by (with_reducible repeat (first | refine blk_drewN ?_ _ | refine blk_drew ?_ | refine blk_alloc ?_ _)); exact BK240.out)) : gb241 ≠ gb240)); clear BK240; clear HB; have BK240 := n0_; have HB := n1_; have BK241 := n2_; have GW241 := n3_; have GE241 := n4_; have NB240_241 := n5_; have NB241_240 := n6_; clear n0_ n1_ n2_ n3_ n4_ n5_ n6_; clear hb hbox hg))
 (try simp only [Act.put, List.setIfInBounds_toArray, List.set_cons_zero, List.set_cons_succ])
 go_cut [19] (fun v19 wc => ∃ (kq : Nat) (x19_2 : Bool), v19 = .bool x19_2 ∧ Aside0 (mailroomlaw07_CmdLine.j0 kq x19_2 a0_0 a0_1 l0_2 a1_0 a1_1 l1_2 = some r) ∧ Aside0 (kq ≤ k) ∧ Aside0 (wc.heap[gb240]? = some (.cells #[.int .u8 a0_0, .string a0_1, (.slice A0_2 l0_2.length c0_2)] 27 (0, 0))) ∧ Aside0 (wc.heap[gb241]? = some (.cells #[.int .u8 a1_0, .string a1_1, (.slice A1_2 l1_2.length c1_2)] 27 (0, 0))) ∧ Aside0 (Below w.heap.size w wc))
 case first =>
  have H := HC3.out
  clear HC3
  replace H := Option.bind_eq_some_iff.mp H
  obtain ⟨t242, A60, H⟩ := H
  replace H : (if t242 = true then (mailroomlaw07_CmdLine.j0 k true a0_0 a0_1 l0_2 a1_0 a1_1 l1_2) else ((mailroomlaw07_long.f k a1_0 a1_1 l1_2).bind fun t243 => (if t243 = true then (mailroomlaw07_CmdLine.j0 k true a0_0 a0_1 l0_2 a1_0 a1_1 l1_2) else ((mailroomlaw07_awake.f k).bind fun t244 => (mailroomlaw07_CmdLine.j0 k (!t244) a0_0 a0_1 l0_2 a1_0 a1_1 l1_2))))) = some r := H
  have A6 := Aside0.mk A60
  clear A60
  by_cases c7 : t242 = true
  ·subst c7
   have H1 : (mailroomlaw07_CmdLine.j0 k true a0_0 a0_1 l0_2 a1_0 a1_1 l1_2) = some r := by rw [if_pos rfl] at H; exact H
   clear H
   have H := H1
   clear H1
   have H' := Aside0.mk H
   clear H
   have hnb8 := NB240_241.out
   have hnc8 := NB241_240.out
   have hcz9_0 : w5.cell? ⟨gb240, 0, none⟩ = some (.int .u8 a0_0) := (blk_cell BK240.out 0).trans rfl
   have hcz9_1 : w5.cell? ⟨gb240, 1, none⟩ = some (.string a0_1) := (blk_cell BK240.out 1).trans rfl
   have hcz9_2 : w5.cell? ⟨gb240, 2, none⟩ = some (.slice A0_2 l0_2.length c0_2) := (blk_cell BK240.out 2).trans rfl
   have hfz9_0 := blk_frozen BK240.out 0
   have hfz9_1 := blk_frozen BK240.out 1
   have hfz9_2 := blk_frozen BK240.out 2
   go_wp2_with (first | ((with_reducible refine gate_callee (f := 12) rfl ?_); refine goesL_ (some 11) rfl rfl Tryd.func12 (by kernel_rfl) rfl #[.agg #[.int .u8 a0_0, .string a0_1, .slice A0_2 l0_2.length c0_2]] rfl (by (try simp only [List.map_toArray, List.map_cons, List.map_nil]); first | done | rfl | (simp only [List.length_drop, List.length_take]; rfl)) ?_; (with_reducible refine (mailroomlaw07_long.calls k a0_0 a0_1 _ _ l0_2 true _ ?side1 ?side2 A6.out).mono ?_); (case side1 => repeat (first | exact (Kd.C_below HR0_2.out HB.out) | (with_reducible refine Kd.C_alloc ?_ _) | (with_reducible refine Kd.C_drewN ?_ _) | (with_reducible refine Kd.C_drew ?_))); (case side2 => exact HC0_2.out); rintro e w10 ⟨rfl, hb⟩; refine ⟨_, rfl, ?_⟩; have n0_ := Aside0.mk (blk_below (g := gb240) (o := .cells #[.int .u8 a0_0, .string a0_1, .slice A0_2 l0_2.length c0_2] 27 (0, 0)) (by (with_reducible repeat (first | refine blk_drewN ?_ _ | refine blk_drew ?_ | refine blk_alloc ?_ _)); exact BK240.out) hb); have n1_ := Aside0.mk (blk_below (g := gb241) (o := .cells #[.int .u8 a1_0, .string a1_1, .slice A1_2 l1_2.length c1_2] 27 (0, 0)) (by (with_reducible repeat (first | refine blk_drewN ?_ _ | refine blk_drew ?_ | refine blk_alloc ?_ _)); exact BK241.out) hb); have n2_ := Aside0.mk (below_step (by repeat (first | (with_reducible first | exact HB.out | apply below_alloc | apply pw_below_drewN | apply below_drew1 | refine below_set ?_ GE240.out | refine below_set ?_ GE241.out) | exact HB.out)) hb); clear BK240; clear BK241; clear HB; have BK240 := n0_; have BK241 := n1_; have HB := n2_; clear n0_ n1_ n2_; (try clear hb); (try clear hb2); (try clear hk); (try clear hi)))
   go_meet
   case rel => exact ⟨_, (true), (by first | rfl | (simp; done) | (simp [*]; done)), H', ⟨by first | omega | exact Nat.le_refl _⟩, ⟨by (with_reducible repeat (first | refine blk_drewN ?_ _ | refine blk_drew ?_ | refine blk_alloc ?_ _)); exact BK240.out⟩, ⟨by (with_reducible repeat (first | refine blk_drewN ?_ _ | refine blk_drew ?_ | refine blk_alloc ?_ _)); exact BK241.out⟩, ⟨by repeat (first | (with_reducible first | exact HB.out | apply below_alloc | apply pw_below_drewN | apply below_drew1 | refine below_set ?_ GE240.out | refine below_set ?_ GE241.out) | exact HB.out)⟩⟩
  ·replace c7 := Bool.eq_false_iff.mpr c7
   subst c7
   have H1 : ((mailroomlaw07_long.f k a1_0 a1_1 l1_2).bind fun t243 => (if t243 = true then (mailroomlaw07_CmdLine.j0 k true a0_0 a0_1 l0_2 a1_0 a1_1 l1_2) else ((mailroomlaw07_awake.f k).bind fun t244 => (mailroomlaw07_CmdLine.j0 k (!t244) a0_0 a0_1 l0_2 a1_0 a1_1 l1_2)))) = some r := by rw [if_neg (show ¬ (false = true) by decide)] at H; exact H
   clear H
   have H := H1
   clear H1
   replace H := Option.bind_eq_some_iff.mp H
   obtain ⟨t243, A110, H⟩ := H
   replace H : (if t243 = true then (mailroomlaw07_CmdLine.j0 k true a0_0 a0_1 l0_2 a1_0 a1_1 l1_2) else ((mailroomlaw07_awake.f k).bind fun t244 => (mailroomlaw07_CmdLine.j0 k (!t244) a0_0 a0_1 l0_2 a1_0 a1_1 l1_2))) = some r := H
   have A11 := Aside0.mk A110
   clear A110
   by_cases c12 : t243 = true
   ·subst c12
    have H1 : (mailroomlaw07_CmdLine.j0 k true a0_0 a0_1 l0_2 a1_0 a1_1 l1_2) = some r := by rw [if_pos rfl] at H; exact H
    clear H
    have H := H1
    clear H1
    have H' := Aside0.mk H
    clear H
    have hnb13 := NB240_241.out
    have hnc13 := NB241_240.out
    have hcz14_0 : w5.cell? ⟨gb240, 0, none⟩ = some (.int .u8 a0_0) := (blk_cell BK240.out 0).trans rfl
    have hcz14_1 : w5.cell? ⟨gb240, 1, none⟩ = some (.string a0_1) := (blk_cell BK240.out 1).trans rfl
    have hcz14_2 : w5.cell? ⟨gb240, 2, none⟩ = some (.slice A0_2 l0_2.length c0_2) := (blk_cell BK240.out 2).trans rfl
    have hfz14_0 := blk_frozen BK240.out 0
    have hfz14_1 := blk_frozen BK240.out 1
    have hfz14_2 := blk_frozen BK240.out 2
    go_wp2_with (first | ((with_reducible refine gate_callee (f := 12) rfl ?_); refine goesL_ (some 11) rfl rfl Tryd.func12 (by kernel_rfl) rfl #[.agg #[.int .u8 a0_0, .string a0_1, .slice A0_2 l0_2.length c0_2]] rfl (by (try simp only [List.map_toArray, List.map_cons, List.map_nil]); first | done | rfl | (simp only [List.length_drop, List.length_take]; rfl)) ?_; (with_reducible refine (mailroomlaw07_long.calls k a0_0 a0_1 _ _ l0_2 false _ ?side1 ?side2 A6.out).mono ?_); (case side1 => repeat (first | exact (Kd.C_below HR0_2.out HB.out) | (with_reducible refine Kd.C_alloc ?_ _) | (with_reducible refine Kd.C_drewN ?_ _) | (with_reducible refine Kd.C_drew ?_))); (case side2 => exact HC0_2.out); rintro e w15 ⟨rfl, hb⟩; refine ⟨_, rfl, ?_⟩; have n0_ := Aside0.mk (blk_below (g := gb240) (o := .cells #[.int .u8 a0_0, .string a0_1, .slice A0_2 l0_2.length c0_2] 27 (0, 0)) (by (with_reducible repeat (first | refine blk_drewN ?_ _ | refine blk_drew ?_ | refine blk_alloc ?_ _)); exact BK240.out) hb); have n1_ := Aside0.mk (blk_below (g := gb241) (o := .cells #[.int .u8 a1_0, .string a1_1, .slice A1_2 l1_2.length c1_2] 27 (0, 0)) (by (with_reducible repeat (first | refine blk_drewN ?_ _ | refine blk_drew ?_ | refine blk_alloc ?_ _)); exact BK241.out) hb); have n2_ := Aside0.mk (below_step (by repeat (first | (with_reducible first | exact HB.out | apply below_alloc | apply pw_below_drewN | apply below_drew1 | refine below_set ?_ GE240.out | refine below_set ?_ GE241.out) | exact HB.out)) hb); clear BK240; clear BK241; clear HB; have BK240 := n0_; have BK241 := n1_; have HB := n2_; clear n0_ n1_ n2_; (try clear hb); (try clear hb2); (try clear hk); (try clear hi); have hcz16_0 : w15.cell? ⟨gb241, 0, none⟩ = some (.int .u8 a1_0) := (blk_cell BK241.out 0).trans rfl; have hcz16_1 : w15.cell? ⟨gb241, 1, none⟩ = some (.string a1_1) := (blk_cell BK241.out 1).trans rfl; have hcz16_2 : w15.cell? ⟨gb241, 2, none⟩ = some (.slice A1_2 l1_2.length c1_2) := (blk_cell BK241.out 2).trans rfl; have hfz16_0 := blk_frozen BK241.out 0; have hfz16_1 := blk_frozen BK241.out 1; have hfz16_2 := blk_frozen BK241.out 2) | (go_at_call 12; (with_reducible refine (mailroomlaw07_long.calls k a1_0 a1_1 _ _ l1_2 true _ ?side1 ?side2 A11.out).mono ?_); (case side1 => repeat (first | exact (Kd.C_below HR1_2.out HB.out) | (with_reducible refine Kd.C_alloc ?_ _) | (with_reducible refine Kd.C_drewN ?_ _) | (with_reducible refine Kd.C_drew ?_))); (case side2 => exact HC1_2.out); rintro e w17 ⟨rfl, hb⟩; have n0_ := Aside0.mk (blk_below (g := gb240) (o := .cells #[.int .u8 a0_0, .string a0_1, .slice A0_2 l0_2.length c0_2] 27 (0, 0)) (by (with_reducible repeat (first | refine blk_drewN ?_ _ | refine blk_drew ?_ | refine blk_alloc ?_ _)); exact BK240.out) hb); have n1_ := Aside0.mk (blk_below (g := gb241) (o := .cells #[.int .u8 a1_0, .string a1_1, .slice A1_2 l1_2.length c1_2] 27 (0, 0)) (by (with_reducible repeat (first | refine blk_drewN ?_ _ | refine blk_drew ?_ | refine blk_alloc ?_ _)); exact BK241.out) hb); have n2_ := Aside0.mk (below_step (by repeat (first | (with_reducible first | exact HB.out | apply below_alloc | apply pw_below_drewN | apply below_drew1 | refine below_set ?_ GE240.out | refine below_set ?_ GE241.out) | exact HB.out)) hb); clear BK240; clear BK241; clear HB; have BK240 := n0_; have BK241 := n1_; have HB := n2_; clear n0_ n1_ n2_; (try clear hb); (try clear hb2); (try clear hk); (try clear hi)))
    go_meet
    case rel => exact ⟨_, (true), (by first | rfl | (simp; done) | (simp [*]; done)), H', ⟨by first | omega | exact Nat.le_refl _⟩, ⟨by (with_reducible repeat (first | refine blk_drewN ?_ _ | refine blk_drew ?_ | refine blk_alloc ?_ _)); exact BK240.out⟩, ⟨by (with_reducible repeat (first | refine blk_drewN ?_ _ | refine blk_drew ?_ | refine blk_alloc ?_ _)); exact BK241.out⟩, ⟨by repeat (first | (with_reducible first | exact HB.out | apply below_alloc | apply pw_below_drewN | apply below_drew1 | refine below_set ?_ GE240.out | refine below_set ?_ GE241.out) | exact HB.out)⟩⟩
   ·replace c12 := Bool.eq_false_iff.mpr c12
    subst c12
    have H1 : ((mailroomlaw07_awake.f k).bind fun t244 => (mailroomlaw07_CmdLine.j0 k (!t244) a0_0 a0_1 l0_2 a1_0 a1_1 l1_2)) = some r := by rw [if_neg (show ¬ (false = true) by decide)] at H; exact H
    clear H
    have H := H1
    clear H1
    replace H := Option.bind_eq_some_iff.mp H
    obtain ⟨t244, A180, H⟩ := H
    replace H : (mailroomlaw07_CmdLine.j0 k (!t244) a0_0 a0_1 l0_2 a1_0 a1_1 l1_2) = some r := H
    have A18 := Aside0.mk A180
    clear A180
    have H' := Aside0.mk H
    clear H
    have hnb19 := NB240_241.out
    have hnc19 := NB241_240.out
    have hcz20_0 : w5.cell? ⟨gb240, 0, none⟩ = some (.int .u8 a0_0) := (blk_cell BK240.out 0).trans rfl
    have hcz20_1 : w5.cell? ⟨gb240, 1, none⟩ = some (.string a0_1) := (blk_cell BK240.out 1).trans rfl
    have hcz20_2 : w5.cell? ⟨gb240, 2, none⟩ = some (.slice A0_2 l0_2.length c0_2) := (blk_cell BK240.out 2).trans rfl
    have hfz20_0 := blk_frozen BK240.out 0
    have hfz20_1 := blk_frozen BK240.out 1
    have hfz20_2 := blk_frozen BK240.out 2
    go_wp2_with (first | ((with_reducible refine gate_callee (f := 12) rfl ?_); refine goesL_ (some 11) rfl rfl Tryd.func12 (by kernel_rfl) rfl #[.agg #[.int .u8 a0_0, .string a0_1, .slice A0_2 l0_2.length c0_2]] rfl (by (try simp only [List.map_toArray, List.map_cons, List.map_nil]); first | done | rfl | (simp only [List.length_drop, List.length_take]; rfl)) ?_; (with_reducible refine (mailroomlaw07_long.calls k a0_0 a0_1 _ _ l0_2 false _ ?side1 ?side2 A6.out).mono ?_); (case side1 => repeat (first | exact (Kd.C_below HR0_2.out HB.out) | (with_reducible refine Kd.C_alloc ?_ _) | (with_reducible refine Kd.C_drewN ?_ _) | (with_reducible refine Kd.C_drew ?_))); (case side2 => exact HC0_2.out); rintro e w21 ⟨rfl, hb⟩; refine ⟨_, rfl, ?_⟩; have n0_ := Aside0.mk (blk_below (g := gb240) (o := .cells #[.int .u8 a0_0, .string a0_1, .slice A0_2 l0_2.length c0_2] 27 (0, 0)) (by (with_reducible repeat (first | refine blk_drewN ?_ _ | refine blk_drew ?_ | refine blk_alloc ?_ _)); exact BK240.out) hb); have n1_ := Aside0.mk (blk_below (g := gb241) (o := .cells #[.int .u8 a1_0, .string a1_1, .slice A1_2 l1_2.length c1_2] 27 (0, 0)) (by (with_reducible repeat (first | refine blk_drewN ?_ _ | refine blk_drew ?_ | refine blk_alloc ?_ _)); exact BK241.out) hb); have n2_ := Aside0.mk (below_step (by repeat (first | (with_reducible first | exact HB.out | apply below_alloc | apply pw_below_drewN | apply below_drew1 | refine below_set ?_ GE240.out | refine below_set ?_ GE241.out) | exact HB.out)) hb); clear BK240; clear BK241; clear HB; have BK240 := n0_; have BK241 := n1_; have HB := n2_; clear n0_ n1_ n2_; (try clear hb); (try clear hb2); (try clear hk); (try clear hi); have hcz22_0 : w21.cell? ⟨gb241, 0, none⟩ = some (.int .u8 a1_0) := (blk_cell BK241.out 0).trans rfl; have hcz22_1 : w21.cell? ⟨gb241, 1, none⟩ = some (.string a1_1) := (blk_cell BK241.out 1).trans rfl; have hcz22_2 : w21.cell? ⟨gb241, 2, none⟩ = some (.slice A1_2 l1_2.length c1_2) := (blk_cell BK241.out 2).trans rfl; have hfz22_0 := blk_frozen BK241.out 0; have hfz22_1 := blk_frozen BK241.out 1; have hfz22_2 := blk_frozen BK241.out 2) | (go_at_call 12; (with_reducible refine (mailroomlaw07_long.calls k a1_0 a1_1 _ _ l1_2 false _ ?side1 ?side2 A11.out).mono ?_); (case side1 => repeat (first | exact (Kd.C_below HR1_2.out HB.out) | (with_reducible refine Kd.C_alloc ?_ _) | (with_reducible refine Kd.C_drewN ?_ _) | (with_reducible refine Kd.C_drew ?_))); (case side2 => exact HC1_2.out); rintro e w23 ⟨rfl, hb⟩; have n0_ := Aside0.mk (blk_below (g := gb240) (o := .cells #[.int .u8 a0_0, .string a0_1, .slice A0_2 l0_2.length c0_2] 27 (0, 0)) (by (with_reducible repeat (first | refine blk_drewN ?_ _ | refine blk_drew ?_ | refine blk_alloc ?_ _)); exact BK240.out) hb); have n1_ := Aside0.mk (blk_below (g := gb241) (o := .cells #[.int .u8 a1_0, .string a1_1, .slice A1_2 l1_2.length c1_2] 27 (0, 0)) (by (with_reducible repeat (first | refine blk_drewN ?_ _ | refine blk_drew ?_ | refine blk_alloc ?_ _)); exact BK241.out) hb); have n2_ := Aside0.mk (below_step (by repeat (first | (with_reducible first | exact HB.out | apply below_alloc | apply pw_below_drewN | apply below_drew1 | refine below_set ?_ GE240.out | refine below_set ?_ GE241.out) | exact HB.out)) hb); clear BK240; clear BK241; clear HB; have BK240 := n0_; have BK241 := n1_; have HB := n2_; clear n0_ n1_ n2_; (try clear hb); (try clear hb2); (try clear hk); (try clear hi)) | (go_at_call 7; (with_reducible refine (mailroomlaw07_awake.calls k  t244 _ A18.out (GL.of_below hG (by repeat (first | (with_reducible first | exact HB.out | exact Below.refl _ _ | apply below_alloc | apply pw_below_drewN | apply below_drew1) | exact HB.out | exact hb | refine below_set ?_ (by assumption))))).mono ?_); rintro e w24 ⟨rfl, hb⟩; have n0_ := Aside0.mk (blk_below (g := gb240) (o := .cells #[.int .u8 a0_0, .string a0_1, .slice A0_2 l0_2.length c0_2] 27 (0, 0)) (by (with_reducible repeat (first | refine blk_drewN ?_ _ | refine blk_drew ?_ | refine blk_alloc ?_ _)); exact BK240.out) hb); have n1_ := Aside0.mk (blk_below (g := gb241) (o := .cells #[.int .u8 a1_0, .string a1_1, .slice A1_2 l1_2.length c1_2] 27 (0, 0)) (by (with_reducible repeat (first | refine blk_drewN ?_ _ | refine blk_drew ?_ | refine blk_alloc ?_ _)); exact BK241.out) hb); have n2_ := Aside0.mk (below_step (by repeat (first | (with_reducible first | exact HB.out | apply below_alloc | apply pw_below_drewN | apply below_drew1 | refine below_set ?_ GE240.out | refine below_set ?_ GE241.out) | exact HB.out)) hb); clear BK240; clear BK241; clear HB; have BK240 := n0_; have BK241 := n1_; have HB := n2_; clear n0_ n1_ n2_; (try clear hb); (try clear hb2); (try clear hk); (try clear hi)))
    go_meet
    case rel => exact ⟨_, (!t244), (by first | rfl | (simp; done) | (simp [*]; done)), H', ⟨by first | omega | exact Nat.le_refl _⟩, ⟨by (with_reducible repeat (first | refine blk_drewN ?_ _ | refine blk_drew ?_ | refine blk_alloc ?_ _)); exact BK240.out⟩, ⟨by (with_reducible repeat (first | refine blk_drewN ?_ _ | refine blk_drew ?_ | refine blk_alloc ?_ _)); exact BK241.out⟩, ⟨by repeat (first | (with_reducible first | exact HB.out | apply below_alloc | apply pw_below_drewN | apply below_drew1 | refine below_set ?_ GE240.out | refine below_set ?_ GE241.out) | exact HB.out)⟩⟩
 case rest =>
  clear HC3
  try clear c1
  try clear p2
  try clear c5
  try clear c7
  try clear c8
  try clear c12
  try clear c13
  try clear c19
  try clear hcz14_0
  try clear hcz14_1
  try clear hcz14_2
  try clear hcz16_0
  try clear hcz16_1
  try clear hcz16_2
  try clear hcz20_0
  try clear hcz20_1
  try clear hcz20_2
  try clear hcz22_0
  try clear hcz22_1
  try clear hcz22_2
  try clear hcz9_0
  try clear hcz9_1
  try clear hcz9_2
  try clear hfz14_0
  try clear hfz14_1
  try clear hfz14_2
  try clear hfz16_0
  try clear hfz16_1
  try clear hfz16_2
  try clear hfz20_0
  try clear hfz20_1
  try clear hfz20_2
  try clear hfz22_0
  try clear hfz22_1
  try clear hfz22_2
  try clear hfz9_0
  try clear hfz9_1
  try clear hfz9_2
  obtain ⟨kq, x19_2, rfl, HA, HJ2, BK240, BK241, HB⟩ := hcut
  cases kq with
  | zero => exact absurd HA.out (by simp [mailroomlaw07_CmdLine.j0])
  | succ kj2 =>
   have H := HA.out
   clear HA
   simp only [mailroomlaw07_CmdLine.j0] at H
   by_cases c25 : x19_2 = true
   ·subst c25
    have H1 : ((mailroomlaw07_awake.f kj2).bind fun t245 => (some t245)) = some r := by rw [if_pos rfl] at H; exact H
    clear H
    have H := H1
    clear H1
    replace H := Option.bind_eq_some_iff.mp H
    obtain ⟨t245, A260, H⟩ := H
    replace H : (some t245) = some r := H
    have A26 := Aside0.mk A260
    clear A260
    obtain rfl := Option.some.inj H
    go_wp2_with (first | ((with_reducible refine gate_callee (f := 7) rfl ?_); refine goesL_ (some 20) rfl rfl Tryd.func7 (by kernel_rfl) rfl #[] rfl (by (try simp only [List.map_toArray, List.map_cons, List.map_nil]); first | done | rfl | (simp only [List.length_drop, List.length_take]; rfl)) ?_; (with_reducible refine (mailroomlaw07_awake.calls kj2  t245 _ A26.out (GL.of_below hG (by repeat (first | (with_reducible first | exact HB.out | exact Below.refl _ _ | apply below_alloc | apply pw_below_drewN | apply below_drew1) | exact HB.out | exact hb | refine below_set ?_ (by assumption))))).mono ?_); rintro e w27 ⟨rfl, hb⟩; refine ⟨_, rfl, ?_⟩; have n0_ := Aside0.mk (blk_below (g := gb240) (o := .cells #[.int .u8 a0_0, .string a0_1, .slice A0_2 l0_2.length c0_2] 27 (0, 0)) (by (with_reducible repeat (first | refine blk_drewN ?_ _ | refine blk_drew ?_ | refine blk_alloc ?_ _)); exact BK240.out) hb); have n1_ := Aside0.mk (blk_below (g := gb241) (o := .cells #[.int .u8 a1_0, .string a1_1, .slice A1_2 l1_2.length c1_2] 27 (0, 0)) (by (with_reducible repeat (first | refine blk_drewN ?_ _ | refine blk_drew ?_ | refine blk_alloc ?_ _)); exact BK241.out) hb); have n2_ := Aside0.mk (below_step (by repeat (first | (with_reducible first | exact HB.out | apply below_alloc | apply pw_below_drewN | apply below_drew1 | refine below_set ?_ GE240.out | refine below_set ?_ GE241.out) | exact HB.out)) hb); clear BK240; clear BK241; clear HB; have BK240 := n0_; have BK241 := n1_; have HB := n2_; clear n0_ n1_ n2_; (try clear hb); (try clear hb2); (try clear hk); (try clear hi)))
    go_ret
    exact ⟨by first | rfl | (simp [errW_none, errW_some] <;> rfl) | (simp [*, errW_none, errW_some] <;> rfl), by repeat (first | (with_reducible first | exact HB.out | apply below_alloc | apply pw_below_drewN | apply below_drew1 | refine below_set ?_ GE240.out | refine below_set ?_ GE241.out) | exact HB.out)⟩
   ·replace c25 := Bool.eq_false_iff.mpr c25
    subst c25
    have H1 : ((cmd_Show.f a0_0 a0_1 l0_2).bind fun bt246 => ((cmd_Show.f a1_0 a1_1 l1_2).bind fun bt248 => (if bt246.2 = 0 then (mailroomlaw07_CmdLine.j1 kj2 bt246.1 bt246.2 bt248.1 (bt248.2 != 0) a0_0 a0_1 l0_2 a1_0 a1_1 l1_2) else (mailroomlaw07_CmdLine.j1 kj2 bt246.1 bt246.2 bt248.1 true a0_0 a0_1 l0_2 a1_0 a1_1 l1_2)))) = some r := by rw [if_neg (show ¬ (false = true) by decide)] at H; exact H
    clear H
    have H := H1
    clear H1
    replace H := Option.bind_eq_some_iff.mp H
    obtain ⟨⟨t246, t247⟩, A280, H⟩ := H
    replace H : ((cmd_Show.f a1_0 a1_1 l1_2).bind fun bt248 => (if t247 = 0 then (mailroomlaw07_CmdLine.j1 kj2 t246 t247 bt248.1 (bt248.2 != 0) a0_0 a0_1 l0_2 a1_0 a1_1 l1_2) else (mailroomlaw07_CmdLine.j1 kj2 t246 t247 bt248.1 true a0_0 a0_1 l0_2 a1_0 a1_1 l1_2))) = some r := H
    have A28 := Aside0.mk A280
    clear A280
    replace H := Option.bind_eq_some_iff.mp H
    obtain ⟨⟨t248, t249⟩, A290, H⟩ := H
    replace H : (if t247 = 0 then (mailroomlaw07_CmdLine.j1 kj2 t246 t247 t248 (t249 != 0) a0_0 a0_1 l0_2 a1_0 a1_1 l1_2) else (mailroomlaw07_CmdLine.j1 kj2 t246 t247 t248 true a0_0 a0_1 l0_2 a1_0 a1_1 l1_2)) = some r := H
    have A29 := Aside0.mk A290
    clear A290
    have HC30 := Aside0.mk H
    clear H
    have hnb31 := NB240_241.out
    have hnc31 := NB241_240.out
    have hcz32_0 : wc.cell? ⟨gb240, 0, none⟩ = some (.int .u8 a0_0) := (blk_cell BK240.out 0).trans rfl
    have hcz32_1 : wc.cell? ⟨gb240, 1, none⟩ = some (.string a0_1) := (blk_cell BK240.out 1).trans rfl
    have hcz32_2 : wc.cell? ⟨gb240, 2, none⟩ = some (.slice A0_2 l0_2.length c0_2) := (blk_cell BK240.out 2).trans rfl
    have hfz32_0 := blk_frozen BK240.out 0
    have hfz32_1 := blk_frozen BK240.out 1
    have hfz32_2 := blk_frozen BK240.out 2
    go_upto_region 5 with (first | ((with_reducible refine gate_callee (f := 13) rfl ?_); refine goesL_ (some 23) rfl rfl Tryd.func13 (by kernel_rfl) rfl #[.agg #[.int .u8 a0_0, .string a0_1, .slice A0_2 l0_2.length c0_2]] rfl (by (try simp only [List.map_toArray, List.map_cons, List.map_nil]); first | done | rfl | (simp only [List.length_drop, List.length_take]; rfl)) ?_; (with_reducible refine (cmd_Show.calls a0_0 a0_1 _ _ l0_2 t246 t247 _ ?side1 ?side2 A28.out).mono ?_); (case side1 => repeat (first | exact (Kd.C_below HR0_2.out HB.out) | (with_reducible refine Kd.C_alloc ?_ _) | (with_reducible refine Kd.C_drewN ?_ _) | (with_reducible refine Kd.C_drew ?_))); (case side2 => exact HC0_2.out); rintro e w33 ⟨rfl, hb⟩; refine ⟨_, rfl, ?_⟩; have n0_ := Aside0.mk (blk_below (g := gb240) (o := .cells #[.int .u8 a0_0, .string a0_1, .slice A0_2 l0_2.length c0_2] 27 (0, 0)) (by (with_reducible repeat (first | refine blk_drewN ?_ _ | refine blk_drew ?_ | refine blk_alloc ?_ _)); exact BK240.out) hb); have n1_ := Aside0.mk (blk_below (g := gb241) (o := .cells #[.int .u8 a1_0, .string a1_1, .slice A1_2 l1_2.length c1_2] 27 (0, 0)) (by (with_reducible repeat (first | refine blk_drewN ?_ _ | refine blk_drew ?_ | refine blk_alloc ?_ _)); exact BK241.out) hb); have n2_ := Aside0.mk (below_step (by repeat (first | (with_reducible first | exact HB.out | apply below_alloc | apply pw_below_drewN | apply below_drew1 | refine below_set ?_ GE240.out | refine below_set ?_ GE241.out) | exact HB.out)) hb); clear BK240; clear BK241; clear HB; have BK240 := n0_; have BK241 := n1_; have HB := n2_; clear n0_ n1_ n2_; (try clear hb); (try clear hb2); (try clear hk); (try clear hi); have hcz34_0 : w33.cell? ⟨gb241, 0, none⟩ = some (.int .u8 a1_0) := (blk_cell BK241.out 0).trans rfl; have hcz34_1 : w33.cell? ⟨gb241, 1, none⟩ = some (.string a1_1) := (blk_cell BK241.out 1).trans rfl; have hcz34_2 : w33.cell? ⟨gb241, 2, none⟩ = some (.slice A1_2 l1_2.length c1_2) := (blk_cell BK241.out 2).trans rfl; have hfz34_0 := blk_frozen BK241.out 0; have hfz34_1 := blk_frozen BK241.out 1; have hfz34_2 := blk_frozen BK241.out 2) | ((with_reducible refine gate_callee (f := 13) rfl ?_); refine goesL_ (some 28) rfl rfl Tryd.func13 (by kernel_rfl) rfl #[.agg #[.int .u8 a1_0, .string a1_1, .slice A1_2 l1_2.length c1_2]] rfl (by (try simp only [List.map_toArray, List.map_cons, List.map_nil]); first | done | rfl | (simp only [List.length_drop, List.length_take]; rfl)) ?_; (with_reducible refine (cmd_Show.calls a1_0 a1_1 _ _ l1_2 t248 t249 _ ?side1 ?side2 A29.out).mono ?_); (case side1 => repeat (first | exact (Kd.C_below HR1_2.out HB.out) | (with_reducible refine Kd.C_alloc ?_ _) | (with_reducible refine Kd.C_drewN ?_ _) | (with_reducible refine Kd.C_drew ?_))); (case side2 => exact HC1_2.out); rintro e w35 ⟨rfl, hb⟩; refine ⟨_, rfl, ?_⟩; have n0_ := Aside0.mk (blk_below (g := gb240) (o := .cells #[.int .u8 a0_0, .string a0_1, .slice A0_2 l0_2.length c0_2] 27 (0, 0)) (by (with_reducible repeat (first | refine blk_drewN ?_ _ | refine blk_drew ?_ | refine blk_alloc ?_ _)); exact BK240.out) hb); have n1_ := Aside0.mk (blk_below (g := gb241) (o := .cells #[.int .u8 a1_0, .string a1_1, .slice A1_2 l1_2.length c1_2] 27 (0, 0)) (by (with_reducible repeat (first | refine blk_drewN ?_ _ | refine blk_drew ?_ | refine blk_alloc ?_ _)); exact BK241.out) hb); have n2_ := Aside0.mk (below_step (by repeat (first | (with_reducible first | exact HB.out | apply below_alloc | apply pw_below_drewN | apply below_drew1 | refine below_set ?_ GE240.out | refine below_set ?_ GE241.out) | exact HB.out)) hb); clear BK240; clear BK241; clear HB; have BK240 := n0_; have BK241 := n1_; have HB := n2_; clear n0_ n1_ n2_; (try clear hb); (try clear hb2); (try clear hk); (try clear hi)))
    (try simp only [Act.put, List.setIfInBounds_toArray, List.set_cons_zero, List.set_cons_succ])
    go_cut [36] (fun v36 wc => ∃ (kq : Nat) (x36_29 : Bool), v36 = .bool x36_29 ∧ Aside0 (mailroomlaw07_CmdLine.j1 kq t246 t247 t248 x36_29 a0_0 a0_1 l0_2 a1_0 a1_1 l1_2 = some r) ∧ Aside0 (kq ≤ kj2) ∧ Aside0 (wc.heap[gb240]? = some (.cells #[.int .u8 a0_0, .string a0_1, (.slice A0_2 l0_2.length c0_2)] 27 (0, 0))) ∧ Aside0 (wc.heap[gb241]? = some (.cells #[.int .u8 a1_0, .string a1_1, (.slice A1_2 l1_2.length c1_2)] 27 (0, 0))) ∧ Aside0 (Below w.heap.size w wc))
    case first =>
     have H := HC30.out
     clear HC30
     by_cases c36 : t247 = 0
     ·rw [if_pos c36] at H
      have c36b0 : (t247 == 0) = true := beq_iff_eq.mpr c36
      have c36b1 : (t247 != 0) = false := bne_eq_false_iff_eq.mpr c36
      clear c36
      (first | rw [c36b0] | (simp only [i64_w, i32_w]; rw [c36b0]) | skip)
      have H' := Aside0.mk H
      clear H
      go_wp2
      go_meet
      case rel => exact ⟨_, ((t249 != 0)), (by first | rfl | (simp; done) | (simp [*]; done)), H', ⟨by have := HJ2.out; first | omega | exact Nat.le_refl _⟩, ⟨by (with_reducible repeat (first | refine blk_drewN ?_ _ | refine blk_drew ?_ | refine blk_alloc ?_ _)); exact BK240.out⟩, ⟨by (with_reducible repeat (first | refine blk_drewN ?_ _ | refine blk_drew ?_ | refine blk_alloc ?_ _)); exact BK241.out⟩, ⟨by repeat (first | (with_reducible first | exact HB.out | apply below_alloc | apply pw_below_drewN | apply below_drew1 | refine below_set ?_ GE240.out | refine below_set ?_ GE241.out) | exact HB.out)⟩⟩
     ·rw [if_neg c36] at H
      have c36b0 : (t247 == 0) = false := beq_eq_false_iff_ne.mpr c36
      have c36b1 : (t247 != 0) = true := bne_iff_ne.mpr c36
      (first | rw [c36b0] | (simp only [i64_w, i32_w]; rw [c36b0]) | skip)
      have H' := Aside0.mk H
      clear H
      go_wp2
      go_meet
      case rel => exact ⟨_, (true), (by first | rfl | (simp; done) | (simp [*]; done)), H', ⟨by have := HJ2.out; first | omega | exact Nat.le_refl _⟩, ⟨by (with_reducible repeat (first | refine blk_drewN ?_ _ | refine blk_drew ?_ | refine blk_alloc ?_ _)); exact BK240.out⟩, ⟨by (with_reducible repeat (first | refine blk_drewN ?_ _ | refine blk_drew ?_ | refine blk_alloc ?_ _)); exact BK241.out⟩, ⟨by repeat (first | (with_reducible first | exact HB.out | apply below_alloc | apply pw_below_drewN | apply below_drew1 | refine below_set ?_ GE240.out | refine below_set ?_ GE241.out) | exact HB.out)⟩⟩
    case rest =>
     clear HC30
     try clear c1
     try clear c2
     try clear p2
     try clear c3
     try clear c5
     try clear c7
     try clear c8
     try clear c12
     try clear c13
     try clear c19
     try clear c25
     try clear c31
     try clear c36
     try clear c36b0
     try clear c36b1
     try clear hcz14_0
     try clear hcz14_1
     try clear hcz14_2
     try clear hcz16_0
     try clear hcz16_1
     try clear hcz16_2
     try clear hcz20_0
     try clear hcz20_1
     try clear hcz20_2
     try clear hcz22_0
     try clear hcz22_1
     try clear hcz22_2
     try clear hcz32_0
     try clear hcz32_1
     try clear hcz32_2
     try clear hcz34_0
     try clear hcz34_1
     try clear hcz34_2
     try clear hcz9_0
     try clear hcz9_1
     try clear hcz9_2
     try clear hfz14_0
     try clear hfz14_1
     try clear hfz14_2
     try clear hfz16_0
     try clear hfz16_1
     try clear hfz16_2
     try clear hfz20_0
     try clear hfz20_1
     try clear hfz20_2
     try clear hfz22_0
     try clear hfz22_1
     try clear hfz22_2
     try clear hfz32_0
     try clear hfz32_1
     try clear hfz32_2
     try clear hfz34_0
     try clear hfz34_1
     try clear hfz34_2
     try clear hfz9_0
     try clear hfz9_1
     try clear hfz9_2
     try clear p2
     obtain ⟨kq, x36_29, rfl, HA, HJ29, BK240, BK241, HB⟩ := hcut
     cases kq with
     | zero => exact absurd HA.out (by simp [mailroomlaw07_CmdLine.j1])
     | succ kj29 =>
      have H := HA.out
      clear HA
      simp only [mailroomlaw07_CmdLine.j1] at H
      by_cases c37 : x36_29 = true
      ·subst c37
       have H1 : (some ((t247 == 0) == (!t246.toList.isEmpty))) = some r := by rw [if_pos rfl] at H; exact H
       clear H
       have H := H1
       clear H1
       obtain rfl := Option.some.inj H
       go_wp2
       go_ret
       exact ⟨by first | rfl | (simp [errW_none, errW_some] <;> rfl) | (simp [*, errW_none, errW_some] <;> rfl), by repeat (first | (with_reducible first | exact HB.out | apply below_alloc | apply pw_below_drewN | apply below_drew1 | refine below_set ?_ GE240.out | refine below_set ?_ GE241.out) | exact HB.out)⟩
      ·replace c37 := Bool.eq_false_iff.mpr c37
       subst c37
       have H1 : (mailroomlaw07_CmdLine.l0 kj29 t246 t248 0 a0_0 a0_1 l0_2 a1_0 a1_1 l1_2) = some r := by rw [if_neg (show ¬ (false = true) by decide)] at H; exact H
       clear H
       have H := H1
       clear H1
       have H' := Aside0.mk H
       clear H
       go_wp2
       go_loopg [9] kj29 (fun kq v9 w' => ∃ (x9_3 : Int), v9 = .int .i64 x9_3 ∧ Aside0 (mailroomlaw07_CmdLine.l0 kq t246 t248 x9_3 a0_0 a0_1 l0_2 a1_0 a1_1 l1_2 = some r) ∧ Aside0 (kq ≤ kj29) ∧ Aside0 (w'.heap[gb240]? = some (.cells #[.int .u8 a0_0, .string a0_1, (.slice A0_2 l0_2.length c0_2)] 27 (0, 0))) ∧ Aside0 (w'.heap[gb241]? = some (.cells #[.int .u8 a1_0, .string a1_1, (.slice A1_2 l1_2.length c1_2)] 27 (0, 0))) ∧ Aside0 (Below w.heap.size w w'))
       case atStart => exact ⟨(0), (by first | rfl | (simp; done) | (simp [*]; done)), H', ⟨Nat.le_refl _⟩, ⟨by (with_reducible repeat (first | refine blk_drewN ?_ _ | refine blk_drew ?_ | refine blk_alloc ?_ _)); exact BK240.out⟩, ⟨by (with_reducible repeat (first | refine blk_drewN ?_ _ | refine blk_drew ?_ | refine blk_alloc ?_ _)); exact BK241.out⟩, ⟨by repeat (first | (with_reducible first | exact HB.out | apply below_alloc | apply pw_below_drewN | apply below_drew1 | refine below_set ?_ GE240.out | refine below_set ?_ GE241.out) | exact HB.out)⟩⟩
       case round =>
        clear H'
        try clear c1
        try clear c2
        try clear p2
        try clear c3
        try clear c5
        try clear c7
        try clear c8
        try clear c12
        try clear c13
        try clear c19
        try clear c25
        try clear c31
        try clear c36
        try clear c36b0
        try clear c36b1
        try clear c37
        try clear hcz14_0
        try clear hcz14_1
        try clear hcz14_2
        try clear hcz16_0
        try clear hcz16_1
        try clear hcz16_2
        try clear hcz20_0
        try clear hcz20_1
        try clear hcz20_2
        try clear hcz22_0
        try clear hcz22_1
        try clear hcz22_2
        try clear hcz32_0
        try clear hcz32_1
        try clear hcz32_2
        try clear hcz34_0
        try clear hcz34_1
        try clear hcz34_2
        try clear hcz9_0
        try clear hcz9_1
        try clear hcz9_2
        try clear hfz14_0
        try clear hfz14_1
        try clear hfz14_2
        try clear hfz16_0
        try clear hfz16_1
        try clear hfz16_2
        try clear hfz20_0
        try clear hfz20_1
        try clear hfz20_2
        try clear hfz22_0
        try clear hfz22_1
        try clear hfz22_2
        try clear hfz32_0
        try clear hfz32_1
        try clear hfz32_2
        try clear hfz34_0
        try clear hfz34_1
        try clear hfz34_2
        try clear hfz9_0
        try clear hfz9_1
        try clear hfz9_2
        try clear p2
        obtain ⟨x9_3, rfl, HA, HK3, BK240, BK241, HB⟩ := hrel
        cases gk with
        | zero => exact absurd HA.out (by simp [mailroomlaw07_CmdLine.l0])
        | succ k3 =>
         have H := HA.out
         clear HA
         simp only [mailroomlaw07_CmdLine.l0] at H
         by_cases c38 : x9_3 < (t246.size : Int)
         ·rw [if_pos c38] at H
          have c38b0 : decide (x9_3 < (t246.size : Int)) = true := decide_eq_true c38
          clear c38
          by_cases c39 : 0 ≤ x9_3
          ·rw [if_pos c39] at H
           have c39b0 : decide (0 ≤ x9_3) = true := decide_eq_true c39
           clear c39
           by_cases c41 : (bt t246 x9_3) < 32
           ·rw [if_pos c41] at H
            have c41b0 : decide ((bt t246 x9_3) < 32) = true := decide_eq_true c41
            clear c41
            obtain rfl := Option.some.inj H
            have p40 : 0 ≤ (x9_3 : Int) := of_decide_eq_true (by first | (with_reducible assumption) | assumption)
            have q40 : x9_3 < (t246.size : Int) := of_decide_eq_true (by first | (with_reducible assumption) | assumption)
            have hx40 := bt_at t246 x9_3
            replace p40 := eq_true p40
            replace q40 := eq_true q40
            go_wp2
            go_ret
            exact ⟨by first | rfl | (simp [errW_none, errW_some] <;> rfl) | (simp [*, errW_none, errW_some] <;> rfl), by repeat (first | (with_reducible first | exact HB.out | apply below_alloc | apply pw_below_drewN | apply below_drew1 | refine below_set ?_ GE240.out | refine below_set ?_ GE241.out) | exact HB.out)⟩
           ·rw [if_neg c41] at H
            have c41b0 : decide ((bt t246 x9_3) < 32) = false := decide_eq_false c41
            clear c41
            by_cases c43 : (bt t246 x9_3) > 126
            ·rw [if_pos c43] at H
             have c43b0 : decide (126 < (bt t246 x9_3)) = true := decide_eq_true c43
             clear c43
             obtain rfl := Option.some.inj H
             have p40 : 0 ≤ (x9_3 : Int) := of_decide_eq_true (by first | (with_reducible assumption) | assumption)
             have q40 : x9_3 < (t246.size : Int) := of_decide_eq_true (by first | (with_reducible assumption) | assumption)
             have hx40 := bt_at t246 x9_3
             replace p40 := eq_true p40
             replace q40 := eq_true q40
             have p42 : 0 ≤ (x9_3 : Int) := of_decide_eq_true (by first | (with_reducible assumption) | assumption)
             have q42 : x9_3 < (t246.size : Int) := of_decide_eq_true (by first | (with_reducible assumption) | assumption)
             have hx42 := bt_at t246 x9_3
             replace p42 := eq_true p42
             replace q42 := eq_true q42
             go_wp2
             go_ret
             exact ⟨by first | rfl | (simp [errW_none, errW_some] <;> rfl) | (simp [*, errW_none, errW_some] <;> rfl), by repeat (first | (with_reducible first | exact HB.out | apply below_alloc | apply pw_below_drewN | apply below_drew1 | refine below_set ?_ GE240.out | refine below_set ?_ GE241.out) | exact HB.out)⟩
            ·rw [if_neg c43] at H
             have c43b0 : decide (126 < (bt t246 x9_3)) = false := decide_eq_false c43
             clear c43
             have H' := Aside0.mk H
             clear H
             have p40 : 0 ≤ (x9_3 : Int) := of_decide_eq_true (by first | (with_reducible assumption) | assumption)
             have q40 : x9_3 < (t246.size : Int) := of_decide_eq_true (by first | (with_reducible assumption) | assumption)
             have hx40 := bt_at t246 x9_3
             replace p40 := eq_true p40
             replace q40 := eq_true q40
             have p42 : 0 ≤ (x9_3 : Int) := of_decide_eq_true (by first | (with_reducible assumption) | assumption)
             have q42 : x9_3 < (t246.size : Int) := of_decide_eq_true (by first | (with_reducible assumption) | assumption)
             have hx42 := bt_at t246 x9_3
             replace p42 := eq_true p42
             replace q42 := eq_true q42
             go_wp2
             go_roundg k3
             case measure => have := HJ2.out; have := HJ29.out; have := HK3.out; omega
             case rel => exact ⟨(wrap64 (x9_3 + 1)), (by first | rfl | (simp; done) | (simp [*]; done)), H', ⟨by have := HJ2.out; have := HJ29.out; have := HK3.out; omega⟩, ⟨by (with_reducible repeat (first | refine blk_drewN ?_ _ | refine blk_drew ?_ | refine blk_alloc ?_ _)); exact BK240.out⟩, ⟨by (with_reducible repeat (first | refine blk_drewN ?_ _ | refine blk_drew ?_ | refine blk_alloc ?_ _)); exact BK241.out⟩, ⟨by repeat (first | (with_reducible first | exact HB.out | apply below_alloc | apply pw_below_drewN | apply below_drew1 | refine below_set ?_ GE240.out | refine below_set ?_ GE241.out) | exact HB.out)⟩⟩
          ·rw [if_neg c39] at H
           exact absurd H (by simp)
         ·rw [if_neg c38] at H
          have c38b0 : decide (x9_3 < (t246.size : Int)) = false := decide_eq_false c38
          clear c38
          by_cases c44 : (t246.size : Int) ≤ 510
          ·rw [if_pos c44] at H
           have c44b0 : decide ((t246.size : Int) ≤ 510) = true := decide_eq_true c44
           have c44b1 : decide (t246.size ≤ 510) = true := decide_eq_true (by omega)
           clear c44
           replace H := Option.bind_eq_some_iff.mp H
           obtain ⟨t250, A450, H⟩ := H
           replace H : (if ((t246.toList == t248.toList) == t250) = true then (if a0_0 = a1_0 then (some true) else ((mailroomref07_Great.f t246).bind fun t251 => ((mailroomref07_Great.f t248).bind fun t252 => (some (t251.toList != t252.toList))))) else (some false)) = some r := H
           have A45 := Aside0.mk A450
           clear A450
           by_cases c46 : ((t246.toList == t248.toList) == t250) = true
           ·rw [if_pos c46] at H
            have c46b0 : ((t246.toList == t248.toList) == t250) = true := c46
            (try (have c46b1 : decide ((t246.toList == t248.toList) = t250) = true := by simpa using c46))
            (try (have c46b2 : ((t246.toList == t248.toList) == t250) = true := by simpa using c46))
            clear c46
            by_cases c47 : a0_0 = a1_0
            ·rw [if_pos c47] at H
             have c47b0 : (a0_0 == a1_0) = true := beq_iff_eq.mpr c47
             have c47b1 : (a0_0 != a1_0) = false := bne_eq_false_iff_eq.mpr c47
             clear c47
             obtain rfl := Option.some.inj H
             have hnb48 := NB240_241.out
             have hnc48 := NB241_240.out
             have hcz49_0 : wr.cell? ⟨gb240, 0, none⟩ = some (.int .u8 a0_0) := (blk_cell BK240.out 0).trans rfl
             have hcz49_1 : wr.cell? ⟨gb240, 1, none⟩ = some (.string a0_1) := (blk_cell BK240.out 1).trans rfl
             have hcz49_2 : wr.cell? ⟨gb240, 2, none⟩ = some (.slice A0_2 l0_2.length c0_2) := (blk_cell BK240.out 2).trans rfl
             have hfz49_0 := blk_frozen BK240.out 0
             have hfz49_1 := blk_frozen BK240.out 1
             have hfz49_2 := blk_frozen BK240.out 2
             have hcz50_0 : wr.cell? ⟨gb241, 0, none⟩ = some (.int .u8 a1_0) := (blk_cell BK241.out 0).trans rfl
             have hcz50_1 : wr.cell? ⟨gb241, 1, none⟩ = some (.string a1_1) := (blk_cell BK241.out 1).trans rfl
             have hcz50_2 : wr.cell? ⟨gb241, 2, none⟩ = some (.slice A1_2 l1_2.length c1_2) := (blk_cell BK241.out 2).trans rfl
             have hfz50_0 := blk_frozen BK241.out 0
             have hfz50_1 := blk_frozen BK241.out 1
             have hfz50_2 := blk_frozen BK241.out 2
             go_wp2_with (first | (go_at_call 16; (with_reducible refine (cmd_Same.calls k3 a0_0 a0_1 _ _ l0_2 a1_0 a1_1 _ _ l1_2 t250 _ ?side1 ?side2 ?side3 ?side4 A45.out).mono ?_); (case side1 => repeat (first | exact (Kd.C_below HR0_2.out HB.out) | (with_reducible refine Kd.C_alloc ?_ _) | (with_reducible refine Kd.C_drewN ?_ _) | (with_reducible refine Kd.C_drew ?_))); (case side2 => exact HC0_2.out); (case side3 => repeat (first | exact (Kd.C_below HR1_2.out HB.out) | (with_reducible refine Kd.C_alloc ?_ _) | (with_reducible refine Kd.C_drewN ?_ _) | (with_reducible refine Kd.C_drew ?_))); (case side4 => exact HC1_2.out); rintro e w51 ⟨rfl, hb⟩; have n0_ := Aside0.mk (blk_below (g := gb240) (o := .cells #[.int .u8 a0_0, .string a0_1, .slice A0_2 l0_2.length c0_2] 27 (0, 0)) (by (with_reducible repeat (first | refine blk_drewN ?_ _ | refine blk_drew ?_ | refine blk_alloc ?_ _)); exact BK240.out) hb); have n1_ := Aside0.mk (blk_below (g := gb241) (o := .cells #[.int .u8 a1_0, .string a1_1, .slice A1_2 l1_2.length c1_2] 27 (0, 0)) (by (with_reducible repeat (first | refine blk_drewN ?_ _ | refine blk_drew ?_ | refine blk_alloc ?_ _)); exact BK241.out) hb); have n2_ := Aside0.mk (below_step (by repeat (first | (with_reducible first | exact HB.out | apply below_alloc | apply pw_below_drewN | apply below_drew1 | refine below_set ?_ GE240.out | refine below_set ?_ GE241.out) | exact HB.out)) hb); clear BK240; clear BK241; clear HB; have BK240 := n0_; have BK241 := n1_; have HB := n2_; clear n0_ n1_ n2_; (try clear hb); (try clear hb2); (try clear hk); (try clear hi); have hcz52_0 : w51.cell? ⟨gb240, 0, none⟩ = some (.int .u8 a0_0) := (blk_cell BK240.out 0).trans rfl; have hcz52_1 : w51.cell? ⟨gb240, 1, none⟩ = some (.string a0_1) := (blk_cell BK240.out 1).trans rfl; have hcz52_2 : w51.cell? ⟨gb240, 2, none⟩ = some (.slice A0_2 l0_2.length c0_2) := (blk_cell BK240.out 2).trans rfl; have hfz52_0 := blk_frozen BK240.out 0; have hfz52_1 := blk_frozen BK240.out 1; have hfz52_2 := blk_frozen BK240.out 2; have hcz53_0 : w51.cell? ⟨gb241, 0, none⟩ = some (.int .u8 a1_0) := (blk_cell BK241.out 0).trans rfl; have hcz53_1 : w51.cell? ⟨gb241, 1, none⟩ = some (.string a1_1) := (blk_cell BK241.out 1).trans rfl; have hcz53_2 : w51.cell? ⟨gb241, 2, none⟩ = some (.slice A1_2 l1_2.length c1_2) := (blk_cell BK241.out 2).trans rfl; have hfz53_0 := blk_frozen BK241.out 0; have hfz53_1 := blk_frozen BK241.out 1; have hfz53_2 := blk_frozen BK241.out 2))
             go_ret
             exact ⟨by first | rfl | (simp [errW_none, errW_some] <;> rfl) | (simp [*, errW_none, errW_some] <;> rfl), by repeat (first | (with_reducible first | exact HB.out | apply below_alloc | apply pw_below_drewN | apply below_drew1 | refine below_set ?_ GE240.out | refine below_set ?_ GE241.out) | exact HB.out)⟩
            ·rw [if_neg c47] at H
             have c47b0 : (a0_0 == a1_0) = false := beq_eq_false_iff_ne.mpr c47
             have c47b1 : (a0_0 != a1_0) = true := bne_iff_ne.mpr c47
             replace H := Option.bind_eq_some_iff.mp H
             obtain ⟨t251, A540, H⟩ := H
             replace H : ((mailroomref07_Great.f t248).bind fun t252 => (some (t251.toList != t252.toList))) = some r := H
             have A54 := Aside0.mk A540
             clear A540
             replace H := Option.bind_eq_some_iff.mp H
             obtain ⟨t252, A550, H⟩ := H
             replace H : (some (t251.toList != t252.toList)) = some r := H
             have A55 := Aside0.mk A550
             clear A550
             obtain rfl := Option.some.inj H
             have hnb56 := NB240_241.out
             have hnc56 := NB241_240.out
             have hcz57_0 : wr.cell? ⟨gb240, 0, none⟩ = some (.int .u8 a0_0) := (blk_cell BK240.out 0).trans rfl
             have hcz57_1 : wr.cell? ⟨gb240, 1, none⟩ = some (.string a0_1) := (blk_cell BK240.out 1).trans rfl
             have hcz57_2 : wr.cell? ⟨gb240, 2, none⟩ = some (.slice A0_2 l0_2.length c0_2) := (blk_cell BK240.out 2).trans rfl
             have hfz57_0 := blk_frozen BK240.out 0
             have hfz57_1 := blk_frozen BK240.out 1
             have hfz57_2 := blk_frozen BK240.out 2
             have hcz58_0 : wr.cell? ⟨gb241, 0, none⟩ = some (.int .u8 a1_0) := (blk_cell BK241.out 0).trans rfl
             have hcz58_1 : wr.cell? ⟨gb241, 1, none⟩ = some (.string a1_1) := (blk_cell BK241.out 1).trans rfl
             have hcz58_2 : wr.cell? ⟨gb241, 2, none⟩ = some (.slice A1_2 l1_2.length c1_2) := (blk_cell BK241.out 2).trans rfl
             have hfz58_0 := blk_frozen BK241.out 0
             have hfz58_1 := blk_frozen BK241.out 1
             have hfz58_2 := blk_frozen BK241.out 2
             go_wp2_with (first | (go_at_call 16; (with_reducible refine (cmd_Same.calls k3 a0_0 a0_1 _ _ l0_2 a1_0 a1_1 _ _ l1_2 t250 _ ?side1 ?side2 ?side3 ?side4 A45.out).mono ?_); (case side1 => repeat (first | exact (Kd.C_below HR0_2.out HB.out) | (with_reducible refine Kd.C_alloc ?_ _) | (with_reducible refine Kd.C_drewN ?_ _) | (with_reducible refine Kd.C_drew ?_))); (case side2 => exact HC0_2.out); (case side3 => repeat (first | exact (Kd.C_below HR1_2.out HB.out) | (with_reducible refine Kd.C_alloc ?_ _) | (with_reducible refine Kd.C_drewN ?_ _) | (with_reducible refine Kd.C_drew ?_))); (case side4 => exact HC1_2.out); rintro e w59 ⟨rfl, hb⟩; have n0_ := Aside0.mk (blk_below (g := gb240) (o := .cells #[.int .u8 a0_0, .string a0_1, .slice A0_2 l0_2.length c0_2] 27 (0, 0)) (by (with_reducible repeat (first | refine blk_drewN ?_ _ | refine blk_drew ?_ | refine blk_alloc ?_ _)); exact BK240.out) hb); have n1_ := Aside0.mk (blk_below (g := gb241) (o := .cells #[.int .u8 a1_0, .string a1_1, .slice A1_2 l1_2.length c1_2] 27 (0, 0)) (by (with_reducible repeat (first | refine blk_drewN ?_ _ | refine blk_drew ?_ | refine blk_alloc ?_ _)); exact BK241.out) hb); have n2_ := Aside0.mk (below_step (by repeat (first | (with_reducible first | exact HB.out | apply below_alloc | apply pw_below_drewN | apply below_drew1 | refine below_set ?_ GE240.out | refine below_set ?_ GE241.out) | exact HB.out)) hb); clear BK240; clear BK241; clear HB; have BK240 := n0_; have BK241 := n1_; have HB := n2_; clear n0_ n1_ n2_; (try clear hb); (try clear hb2); (try clear hk); (try clear hi); have hcz60_0 : w59.cell? ⟨gb240, 0, none⟩ = some (.int .u8 a0_0) := (blk_cell BK240.out 0).trans rfl; have hcz60_1 : w59.cell? ⟨gb240, 1, none⟩ = some (.string a0_1) := (blk_cell BK240.out 1).trans rfl; have hcz60_2 : w59.cell? ⟨gb240, 2, none⟩ = some (.slice A0_2 l0_2.length c0_2) := (blk_cell BK240.out 2).trans rfl; have hfz60_0 := blk_frozen BK240.out 0; have hfz60_1 := blk_frozen BK240.out 1; have hfz60_2 := blk_frozen BK240.out 2; have hcz61_0 : w59.cell? ⟨gb241, 0, none⟩ = some (.int .u8 a1_0) := (blk_cell BK241.out 0).trans rfl; have hcz61_1 : w59.cell? ⟨gb241, 1, none⟩ = some (.string a1_1) := (blk_cell BK241.out 1).trans rfl; have hcz61_2 : w59.cell? ⟨gb241, 2, none⟩ = some (.slice A1_2 l1_2.length c1_2) := (blk_cell BK241.out 2).trans rfl; have hfz61_0 := blk_frozen BK241.out 0; have hfz61_1 := blk_frozen BK241.out 1; have hfz61_2 := blk_frozen BK241.out 2) | (go_at_call 18; (with_reducible refine (mailroomref07_Great.calls t246 t251 _ A54.out).mono ?_); rintro e w62 ⟨rfl, hb⟩; have n0_ := Aside0.mk (blk_below (g := gb240) (o := .cells #[.int .u8 a0_0, .string a0_1, .slice A0_2 l0_2.length c0_2] 27 (0, 0)) (by (with_reducible repeat (first | refine blk_drewN ?_ _ | refine blk_drew ?_ | refine blk_alloc ?_ _)); exact BK240.out) hb); have n1_ := Aside0.mk (blk_below (g := gb241) (o := .cells #[.int .u8 a1_0, .string a1_1, .slice A1_2 l1_2.length c1_2] 27 (0, 0)) (by (with_reducible repeat (first | refine blk_drewN ?_ _ | refine blk_drew ?_ | refine blk_alloc ?_ _)); exact BK241.out) hb); have n2_ := Aside0.mk (below_step (by repeat (first | (with_reducible first | exact HB.out | apply below_alloc | apply pw_below_drewN | apply below_drew1 | refine below_set ?_ GE240.out | refine below_set ?_ GE241.out) | exact HB.out)) hb); clear BK240; clear BK241; clear HB; have BK240 := n0_; have BK241 := n1_; have HB := n2_; clear n0_ n1_ n2_; (try clear hb); (try clear hb2); (try clear hk); (try clear hi)) | (go_at_call 18; (with_reducible refine (mailroomref07_Great.calls t248 t252 _ A55.out).mono ?_); rintro e w63 ⟨rfl, hb⟩; have n0_ := Aside0.mk (blk_below (g := gb240) (o := .cells #[.int .u8 a0_0, .string a0_1, .slice A0_2 l0_2.length c0_2] 27 (0, 0)) (by (with_reducible repeat (first | refine blk_drewN ?_ _ | refine blk_drew ?_ | refine blk_alloc ?_ _)); exact BK240.out) hb); have n1_ := Aside0.mk (blk_below (g := gb241) (o := .cells #[.int .u8 a1_0, .string a1_1, .slice A1_2 l1_2.length c1_2] 27 (0, 0)) (by (with_reducible repeat (first | refine blk_drewN ?_ _ | refine blk_drew ?_ | refine blk_alloc ?_ _)); exact BK241.out) hb); have n2_ := Aside0.mk (below_step (by repeat (first | (with_reducible first | exact HB.out | apply below_alloc | apply pw_below_drewN | apply below_drew1 | refine below_set ?_ GE240.out | refine below_set ?_ GE241.out) | exact HB.out)) hb); clear BK240; clear BK241; clear HB; have BK240 := n0_; have BK241 := n1_; have HB := n2_; clear n0_ n1_ n2_; (try clear hb); (try clear hb2); (try clear hk); (try clear hi)))
             go_ret
             exact ⟨by first | rfl | (simp [errW_none, errW_some] <;> rfl) | (simp [*, errW_none, errW_some] <;> rfl), by repeat (first | (with_reducible first | exact HB.out | apply below_alloc | apply pw_below_drewN | apply below_drew1 | refine below_set ?_ GE240.out | refine below_set ?_ GE241.out) | exact HB.out)⟩
           ·rw [if_neg c46] at H
            have c46b0 : ((t246.toList == t248.toList) == t250) = false := by simpa using c46
            (try (have c46b1 : decide ((t246.toList == t248.toList) = t250) = false := by simpa using c46))
            (try (have c46b2 : ((t246.toList == t248.toList) == t250) = false := by simpa using c46))
            (try (have c46b3 : ¬ ((t246.toList == t248.toList) = t250) := by simpa using c46))
            clear c46
            obtain rfl := Option.some.inj H
            have hnb64 := NB240_241.out
            have hnc64 := NB241_240.out
            have hcz65_0 : wr.cell? ⟨gb240, 0, none⟩ = some (.int .u8 a0_0) := (blk_cell BK240.out 0).trans rfl
            have hcz65_1 : wr.cell? ⟨gb240, 1, none⟩ = some (.string a0_1) := (blk_cell BK240.out 1).trans rfl
            have hcz65_2 : wr.cell? ⟨gb240, 2, none⟩ = some (.slice A0_2 l0_2.length c0_2) := (blk_cell BK240.out 2).trans rfl
            have hfz65_0 := blk_frozen BK240.out 0
            have hfz65_1 := blk_frozen BK240.out 1
            have hfz65_2 := blk_frozen BK240.out 2
            have hcz66_0 : wr.cell? ⟨gb241, 0, none⟩ = some (.int .u8 a1_0) := (blk_cell BK241.out 0).trans rfl
            have hcz66_1 : wr.cell? ⟨gb241, 1, none⟩ = some (.string a1_1) := (blk_cell BK241.out 1).trans rfl
            have hcz66_2 : wr.cell? ⟨gb241, 2, none⟩ = some (.slice A1_2 l1_2.length c1_2) := (blk_cell BK241.out 2).trans rfl
            have hfz66_0 := blk_frozen BK241.out 0
            have hfz66_1 := blk_frozen BK241.out 1
            have hfz66_2 := blk_frozen BK241.out 2
            go_wp2_with (first | (go_at_call 16; (with_reducible refine (cmd_Same.calls k3 a0_0 a0_1 _ _ l0_2 a1_0 a1_1 _ _ l1_2 t250 _ ?side1 ?side2 ?side3 ?side4 A45.out).mono ?_); (case side1 => repeat (first | exact (Kd.C_below HR0_2.out HB.out) | (with_reducible refine Kd.C_alloc ?_ _) | (with_reducible refine Kd.C_drewN ?_ _) | (with_reducible refine Kd.C_drew ?_))); (case side2 => exact HC0_2.out); (case side3 => repeat (first | exact (Kd.C_below HR1_2.out HB.out) | (with_reducible refine Kd.C_alloc ?_ _) | (with_reducible refine Kd.C_drewN ?_ _) | (with_reducible refine Kd.C_drew ?_))); (case side4 => exact HC1_2.out); rintro e w67 ⟨rfl, hb⟩; have n0_ := Aside0.mk (blk_below (g := gb240) (o := .cells #[.int .u8 a0_0, .string a0_1, .slice A0_2 l0_2.length c0_2] 27 (0, 0)) (by (with_reducible repeat (first | refine blk_drewN ?_ _ | refine blk_drew ?_ | refine blk_alloc ?_ _)); exact BK240.out) hb); have n1_ := Aside0.mk (blk_below (g := gb241) (o := .cells #[.int .u8 a1_0, .string a1_1, .slice A1_2 l1_2.length c1_2] 27 (0, 0)) (by (with_reducible repeat (first | refine blk_drewN ?_ _ | refine blk_drew ?_ | refine blk_alloc ?_ _)); exact BK241.out) hb); have n2_ := Aside0.mk (below_step (by repeat (first | (with_reducible first | exact HB.out | apply below_alloc | apply pw_below_drewN | apply below_drew1 | refine below_set ?_ GE240.out | refine below_set ?_ GE241.out) | exact HB.out)) hb); clear BK240; clear BK241; clear HB; have BK240 := n0_; have BK241 := n1_; have HB := n2_; clear n0_ n1_ n2_; (try clear hb); (try clear hb2); (try clear hk); (try clear hi)))
            go_ret
            exact ⟨by first | rfl | (simp [errW_none, errW_some] <;> rfl) | (simp [*, errW_none, errW_some] <;> rfl), by repeat (first | (with_reducible first | exact HB.out | apply below_alloc | apply pw_below_drewN | apply below_drew1 | refine below_set ?_ GE240.out | refine below_set ?_ GE241.out) | exact HB.out)⟩
          ·rw [if_neg c44] at H
           have c44b0 : decide ((t246.size : Int) ≤ 510) = false := decide_eq_false c44
           have c44b1 : decide (t246.size ≤ 510) = false := decide_eq_false (by omega)
           clear c44
           obtain rfl := Option.some.inj H
           go_wp2
           go_ret
           exact ⟨by first | rfl | (simp [errW_none, errW_some] <;> rfl) | (simp [*, errW_none, errW_some] <;> rfl), by repeat (first | (with_reducible first | exact HB.out | apply below_alloc | apply pw_below_drewN | apply below_drew1 | refine below_set ?_ GE240.out | refine below_set ?_ GE241.out) | exact HB.out)⟩
end Go.Proofs.YtljkopbalejcgaaDoor.P
end
section
set_option linter.unusedVariables false
set_option linter.unusedSimpArgs false
namespace Go.Proofs.YtljkopbalejcgaaDoor.P
open Go Go.RowKit Go.Lib Go.Proofs.YtljkopbalejcgaaDoorW.PrintWords
theorem rdp_at (l : List S49) (i : Nat) (h : i < l.length) : rd_T49 l (i : Int) = l[i] := by
 unfold rd_T49; rw [Int.toNat_natCast, List.getD_eq_getElem?_getD, List.getElem?_eq_getElem h]; rfl
theorem long_step (k : Nat) (x : Int) (i : Nat) (v : Int) (a : ByteArray) (l : List S49) (h : i < l.length) (hx : x < 5000) :
  mailroomlaw07_long.l0 (k + 1) x (i : Int) v a l = mailroomlaw07_long.l0 k (wrap64 (wrap64 (wrap64 (x + 5) + mn 5000 ((l[i].f0.size : Nat) : Int)) + mn 5000 ((l[i].f1.size : Nat) : Int))) (wrap64 ((i : Int) + 1)) v a l := by
 rw [mailroomlaw07_long.l0, if_pos (by omega), if_pos hx, if_pos (by omega), rdp_at l i h]
theorem mn_bound (n : Nat) : 0 ≤ mn 5000 (n : Int) ∧ mn 5000 (n : Int) ≤ 5000 ∧ (mn 5000 (n : Int) < 5000 → n < 5000) := by unfold mn; split <;> omega
theorem long_wrap (x m0 m1 : Int) (i : Nat) (h0 : 0 ≤ x) (h1 : x ≤ 20000) (h2 : 0 ≤ m0) (h3 : m0 ≤ 5000) (h4 : 0 ≤ m1) (h5 : m1 ≤ 5000) (hi : i < 9223372036854775807) :
  wrap64 (wrap64 (wrap64 (x + 5) + m0) + m1) = x + 5 + m0 + m1 ∧ wrap64 ((i : Int) + 1) = ((i + 1 : Nat) : Int) := by
 have e1 : wrap64 (x + 5) = x + 5 := wrap64_small _ (by omega) (by omega)
 rw [e1]
 have e2 : wrap64 (x + 5 + m0) = x + 5 + m0 := wrap64_small _ (by omega) (by omega)
 rw [e2]
 exact ⟨wrap64_small _ (by omega) (by omega), wrap64_small _ (by omega) (by omega)⟩
theorem long_arith (x m0 m1 : Int) (len i : Nat) (hx : x < 5000) (h2 : 0 ≤ m0) (h4 : 0 ≤ m1) (h : x + 5 + m0 + m1 + 5 * ((len : Int) - (i + 1 : Nat)) < 5000) (hi : i < len) (h0 : 0 ≤ x) : x + 5 * ((len : Int) - i) < 5000 ∧ m0 < 5000 ∧ m1 < 5000 := by omega
theorem long_l (v : Int) (a : ByteArray) (l : List S49) (hl : l.length ≤ 9223372036854775807) : ∀ (n i : Nat) (x : Int), l.length - i = n → i ≤ l.length → 0 ≤ x → x ≤ 20000 →
  ∃ r, EvF (fun k => mailroomlaw07_long.l0 k x (i : Int) v a l) r ∧ (r = false → x + 5 * ((l.length : Int) - i) < 5000 ∧ ∀ j, (hj : j < l.length) → i ≤ j → l[j].f0.size < 5000 ∧ l[j].f1.size < 5000) := by
 intro n
 induction n with
 | zero =>
  intro i x hn hi h0 h1
  refine ⟨decide (x ≥ 5000), EvF.succ_some fun k => ?_, fun hr => ⟨by simp at hr; omega, fun j hj hij => by omega⟩⟩
  rw [mailroomlaw07_long.l0, if_neg (by omega)]
 | succ n ih =>
  intro i x hn hi h0 h1
  have hlt : i < l.length := by omega
  by_cases hx : x < 5000
  ·obtain ⟨p0, p1, p2⟩ := mn_bound l[i].f0.size
   obtain ⟨q0, q1, q2⟩ := mn_bound l[i].f1.size
   obtain ⟨e1, e2⟩ := long_wrap x _ _ i h0 h1 p0 p1 q0 q1 (Nat.lt_of_lt_of_le hlt hl)
   have hst : ∀ k, mailroomlaw07_long.l0 (k + 1) x (i : Int) v a l = mailroomlaw07_long.l0 k (x + 5 + mn 5000 ((l[i].f0.size : Nat) : Int) + mn 5000 ((l[i].f1.size : Nat) : Int)) ((i + 1 : Nat) : Int) v a l := fun k => by rw [long_step k x i v a l hlt hx, e1, e2]
   clear e1 e2
   generalize mn 5000 ((l[i].f0.size : Nat) : Int) = m0 at p0 p1 p2 hst
   generalize mn 5000 ((l[i].f1.size : Nat) : Int) = m1 at q0 q1 q2 hst
   have z1 : l.length - (i + 1) = n := Nat.eq_of_beq_eq_true (by rw [Nat.beq_eq]; clear p2 q2 hst ih; omega)
   obtain ⟨r, hr, hf⟩ := ih (i + 1) (x + 5 + m0 + m1) z1 hlt (by clear p2 q2 hst ih; omega) (by clear p2 q2 hst ih; omega)
   refine ⟨r, EvF.succ hr hst, fun h => ?_⟩
   obtain ⟨h2, h3⟩ := hf h
   obtain ⟨g1, g2, g3⟩ := long_arith x m0 m1 l.length i hx p0 q0 h2 hlt h0
   refine ⟨g1, fun j hj hij => ?_⟩
   by_cases hji : j = i
   ·subst hji; exact ⟨p2 g2, q2 g3⟩
   ·exact h3 j hj (Nat.lt_of_le_of_ne hij (fun e => hji e.symm))
  ·refine ⟨true, EvF.succ_some fun k => ?_, fun h => by simp at h⟩
   rw [mailroomlaw07_long.l0, if_pos (by omega), if_neg hx, decide_eq_true (by omega)]
theorem long_ev (v : Int) (a : ByteArray) (l : List S49) (hl : l.length ≤ 9223372036854775807) :
  ∃ r, EvF (fun k => mailroomlaw07_long.f k v a l) r ∧ (r = false → a.size < 5000 ∧ l.length ≤ 1000 ∧ plSmall l = true) := by
 obtain ⟨p0, p1, p2⟩ := mn_bound a.size
 have hle : mn 5000 ((a.size : Nat) : Int) ≤ 20000 := Int.le_trans p1 (by decide)
 obtain ⟨r, hr, hf⟩ := long_l v a l hl l.length 0 (mn 5000 ((a.size : Nat) : Int)) (Nat.sub_zero _) (Nat.zero_le _) p0 hle
 refine ⟨r, hr, fun h => ?_⟩
 obtain ⟨h1, h2⟩ := hf h
 have g : mn 5000 ((a.size : Nat) : Int) < 5000 ∧ l.length ≤ 1000 := by
  clear hf h2
  generalize mn 5000 ((a.size : Nat) : Int) = m at p0 p1 p2 hle h1 hr
  clear hr p2
  omega
 refine ⟨p2 g.1, g.2, ?_⟩
 unfold plSmall
 rw [Bool.and_eq_true, decide_eq_true_eq, List.all_eq_true]
 refine ⟨by omega, fun p hp => ?_⟩
 obtain ⟨j, hj, rfl⟩ := List.getElem_of_mem hp
 have := h2 j hj (Nat.zero_le _)
 rw [Bool.and_eq_true, decide_eq_true_eq, decide_eq_true_eq]
 omega
theorem param_l (l l' : List S49) (hl : l.length ≤ 1000000) (he : l.length = l'.length) (i : Nat) (hi : i ≤ l.length) : EvF (fun k => cmd_Param.l0 k l l' (l.length : Int) (i : Int)) (decide ((plOf l).drop i = (plOf l').drop i)) := by
 have hpl : ∀ (l : List S49) (i : Nat) (h : i < l.length), (plOf l).drop i = (l[i].f0.data.toList, l[i].f1.data.toList) :: (plOf l).drop (i + 1) := by
  intro l i h
  have h' : i < (plOf l).length := by unfold plOf; rw [List.length_map]; exact h
  have h2 : (plOf l)[i] = (l[i].f0.data.toList, l[i].f1.data.toList) := by simp [plOf]
  rw [List.drop_eq_getElem_cons h', h2]
 refine EvF.down (L := fun k i => cmd_Param.l0 k l l' (l.length : Int) (i : Int)) (V := fun i => decide ((plOf l).drop i = (plOf l').drop i)) l.length (fun i hi ih => ?_) i hi
 by_cases h : i < l.length
 ·have hw : wrap64 ((i : Int) + 1) = ((i + 1 : Nat) : Int) := wrap64_small _ (by omega) (by omega)
  refine EvF.succ (g := fun k => if (l[i].f0.data.toList = l'[i].f0.data.toList ∧ l[i].f1.data.toList = l'[i].f1.data.toList) then cmd_Param.l0 k l l' (l.length : Int) ((i + 1 : Nat) : Int) else some false) ?_ (fun k => ?_)
  ·show EvF _ (decide ((plOf l).drop i = (plOf l').drop i))
   rw [hpl l i h, hpl l' i (by omega)]
   by_cases hc : l[i].f0.data.toList = l'[i].f0.data.toList ∧ l[i].f1.data.toList = l'[i].f1.data.toList
   ·have e : decide ((l[i].f0.data.toList, l[i].f1.data.toList) :: (plOf l).drop (i + 1) = (l'[i].f0.data.toList, l'[i].f1.data.toList) :: (plOf l').drop (i + 1)) = decide ((plOf l).drop (i + 1) = (plOf l').drop (i + 1)) := by
     rw [hc.1, hc.2]; simp
    rw [e]
    exact (ih h).congr fun k => by rw [if_pos hc]
   ·rw [decide_eq_false (by intro e; injection e with e1 e2; injection e1 with e3 e4; exact hc ⟨e3, e4⟩)]
    exact EvF.of fun k => by rw [if_neg hc]
  ·simp only [cmd_Param.l0]
   rw [if_pos (by omega), if_pos (by omega), if_pos (by omega), if_pos (by omega), rdp_at l i h, rdp_at l' i (by omega), hw, Lib.toList_data, Lib.toList_data, Lib.toList_data, Lib.toList_data]
   by_cases hc : l[i].f0.data.toList = l'[i].f0.data.toList ∧ l[i].f1.data.toList = l'[i].f1.data.toList
   ·rw [if_neg (by simp [hc.1, hc.2]), if_pos hc]
   ·rw [if_pos ?_, if_neg hc]
    simp only [Bool.or_eq_true, Bool.not_eq_true', beq_eq_false_iff_ne, ne_eq]
    by_cases h0 : l[i].f0.data.toList = l'[i].f0.data.toList
    ·exact .inr fun h1 => hc ⟨h0, h1⟩
    ·exact .inl h0
 ·refine EvF.succ_some fun k => ?_
  simp only [cmd_Param.l0]
  rw [if_neg (by omega), List.drop_of_length_le (by unfold plOf; rw [List.length_map]; omega), List.drop_of_length_le (by unfold plOf; rw [List.length_map]; omega), decide_eq_true rfl]
theorem param_ev (l l' : List S49) (hl : l.length ≤ 1000000) : EvF (fun k => cmd_Param.f k l l') (decide (plOf l = plOf l')) := by
 by_cases h : l.length = l'.length
 ·exact (param_l l l' hl h 0 (Nat.zero_le _)).congr fun k => by unfold cmd_Param.f; rw [if_pos (by omega)]; rfl
 ·rw [decide_eq_false (by intro e; apply h; have := congrArg List.length e; unfold plOf at this; rwa [List.length_map, List.length_map] at this)]
  exact EvF.of fun k => by unfold cmd_Param.f; rw [if_neg (by omega)]
theorem same_ev (v : Int) (a : ByteArray) (l : List S49) (v' : Int) (a' : ByteArray) (l' : List S49) (hl : l.length ≤ 1000000) :
  EvF (fun k => cmd_Same.f k v a l v' a' l') (decide (v = v' ∧ a.data.toList = a'.data.toList ∧ plOf l = plOf l')) := by
 by_cases h1 : v = v'
 ·by_cases h2 : a.data.toList = a'.data.toList
  ·have e : decide (v = v' ∧ a.data.toList = a'.data.toList ∧ plOf l = plOf l') = decide (plOf l = plOf l') := by simp [h1, h2]
   rw [e]
   exact (EvF.bind (g := fun _ t => some t) (param_ev l l' hl) (EvF.of fun k => rfl)).congr fun k => by unfold cmd_Same.f; rw [if_pos h1, Lib.toList_data, Lib.toList_data, if_pos h2]
  ·rw [decide_eq_false (fun h => h2 h.2.1)]
   exact EvF.of fun k => by unfold cmd_Same.f; rw [if_pos h1, Lib.toList_data, Lib.toList_data, if_neg h2]
 ·rw [decide_eq_false (fun h => h1 h.1)]
  exact EvF.of fun k => by unfold cmd_Same.f; rw [if_neg h1]
end Go.Proofs.YtljkopbalejcgaaDoor.P
end
section
set_option linter.unusedVariables false
set_option linter.unusedSimpArgs false
namespace Go.Proofs.YtljkopbalejcgaaDoor.P
open Go Go.RowKit Go.Lib Go.Proofs.YtljkopbalejcgaaDoorW.PrintWords
theorem cut_form (s : List UInt8) (c : UInt8) : (c ∉ s ∧ Lib.cut s [c] = (s, [], false)) ∨ ∃ x y, c ∉ x ∧ s = x ++ c :: y ∧ Lib.cut s [c] = (x, y, true) := by
 by_cases h : c ∈ s
 ·obtain ⟨x, y, rfl, hx⟩ := List.eq_append_cons_of_mem h
  exact .inr ⟨x, y, hx, rfl, cut1_hit c x y hx⟩
 ·exact .inl ⟨h, cut1_miss c s h⟩
theorem upper_idem (c : UInt8) : upper (upper c) = upper c := by
 have := bytes_all (fun c => upper (upper c) == upper c) (by decide +kernel) c
 exact eq_of_beq this
theorem map_upper_idem (l : List UInt8) : (l.map upper).map upper = l.map upper := by
 rw [List.map_map]; exact List.map_congr_left fun c _ => upper_idem c
theorem par_sound (w : List UInt8) (h : ((Lib.cut w [61]).2.2 && (Lib.cut w [61]).2.1.isEmpty) = false) : (parT ((Lib.cut w [61]).1.map upper, (Lib.cut w [61]).2.1)).map upper = w.map upper := by
 rcases cut_form w 61 with ⟨_, e⟩ | ⟨x, y, _, rfl, e⟩
 ·rw [e]; simp only [parT]; rw [if_pos trivial, List.append_nil, map_upper_idem]
 ·rw [e] at h ⊢
  have hy : y ≠ [] := by intro hy; rw [hy] at h; simp at h
  simp only [parT]
  rw [if_neg hy, List.map_append, List.map_append, map_upper_idem]
theorem toldF_nil (k : Nat) : toldF k [] = [] := by cases k <;> simp [toldF]
theorem told_sound (k : Nat) : ∀ s : List UInt8, (∀ x, (toldF k s).getLast? = some x → x.2 = []) → toldF k s ≠ [] → Lib.hasSuffix s [32] = false → s.map upper = (paramsT ((toldF k s).map (·.1))).map upper := by
 induction k with
 | zero => intro s _ h _; exact absurd rfl h
 | succ k ih =>
  intro s hlast hne hsuf
  by_cases hs : s = []
  ·rw [hs, toldF_nil] at hne; exact absurd rfl hne
  ·rw [toldF_succ k s hs] at hlast hne ⊢
   split at hne
   ·exact absurd rfl hne
   ·rename_i hcond
    rw [if_neg hcond] at hlast ⊢
    simp only [Bool.or_eq_true, not_or, Bool.not_eq_true, Bool.not_eq_true', Bool.not_eq_false] at hcond
    obtain ⟨⟨hpre, _⟩, hpar⟩ := hcond
    obtain ⟨s1, rfl⟩ := (hasPre_iff s 32).1 hpre
    have htrim : Lib.trimPrefix (32 :: s1) [32] = s1 := by unfold Lib.trimPrefix; rw [if_pos hpre]; rfl
    rw [htrim] at hlast hpar ⊢
    rcases cut_form s1 32 with ⟨_, e⟩ | ⟨x, y, _, rfl, e⟩
    ·rw [e] at hlast hpar ⊢
     simp only [Bool.false_eq_true, if_false, toldF_nil, List.map_cons, List.map_nil, paramsT, List.append_nil] at hpar ⊢
     rw [par_sound s1 hpar]
    ·rw [e] at hlast hpar ⊢
     simp only [if_true, List.map_cons, paramsT] at hlast hpar ⊢
     have hne' : toldF k (32 :: y) ≠ [] := by
      intro h0
      rw [h0] at hlast
      have hy : y = [] := hlast (_, y) rfl
      rw [hy] at hsuf
      have : Lib.hasSuffix (32 :: (x ++ [32])) [32] = true := (hasSuf_iff _ 32).2 ⟨32 :: x, rfl⟩
      rw [this] at hsuf
      exact absurd hsuf (by simp)
     have hlast' : ∀ z, (toldF k (32 :: y)).getLast? = some z → z.2 = [] := by
      intro z hz
      refine hlast z ?_
      obtain ⟨b, r, hbr⟩ := List.exists_cons_of_ne_nil hne'
      rw [hbr] at hz ⊢
      rw [List.getLast?_cons_cons]; exact hz
     have hsuf' : Lib.hasSuffix (32 :: y) [32] = false := by
      rw [Bool.eq_false_iff]
      intro h
      obtain ⟨r, hr⟩ := (hasSuf_iff _ 32).1 h
      have : Lib.hasSuffix (32 :: (x ++ 32 :: y)) [32] = true := (hasSuf_iff _ 32).2 ⟨32 :: x ++ r, by rw [hr]; simp⟩
      rw [this] at hsuf
      exact absurd hsuf (by simp)
     have := ih (32 :: y) hlast' hne' hsuf'
     rw [List.map_append, this, List.map_append, par_sound x hpar]
theorem unpath_sound (y a : List UInt8) (h : unpathF y = some a) : y = 60 :: (a ++ [62]) ∧ mayP a = true := by
 cases y with
 | nil => simp [unpathF] at h
 | cons b r =>
  simp only [unpathF] at h
  split at h
  ·rename_i hc
   obtain ⟨rfl, hg, hm⟩ := hc
   obtain rfl := Option.some.inj h
   have hne : r ≠ [] := by intro e; rw [e] at hg; simp at hg
   refine ⟨?_, hm⟩
   have := List.dropLast_concat_getLast hne
   rw [List.getLast?_eq_some_getLast hne] at hg
   rw [Option.some.inj hg] at this
   rw [this]
  ·simp at h
theorem pathF_sound (s : List UInt8) : ∀ (pre a r : List UInt8), pathF pre s = some (a, r) → pre ++ s = 60 :: (a ++ 62 :: r) ∧ mayP a = true := by
 induction s with
 | nil => intro pre a r h; simp [pathF] at h
 | cons c s ih =>
  intro pre a r h
  simp only [pathF] at h
  by_cases hc : c = 62
  ·rw [if_pos hc] at h
   cases hu : unpathF (pre ++ [62]) with
   | some b =>
    rw [hu] at h
    simp only [Option.some.injEq, Prod.mk.injEq] at h
    obtain ⟨rfl, rfl⟩ := h
    obtain ⟨h1, h2⟩ := unpath_sound _ _ hu
    refine ⟨?_, h2⟩
    subst hc
    rw [show pre ++ 62 :: s = (pre ++ [62]) ++ s from by simp, h1]; simp
   | none =>
    rw [hu] at h
    have := ih (pre ++ [c]) a r h
    simpa using this
  ·rw [if_neg hc] at h
   have := ih (pre ++ [c]) a r h
   simpa using this
theorem parse_sound (t : ByteArray) (hs : t.size ≤ 140737488351232) : ∃ v a l e, cmd_Parse.f t = some (v, a, l, e) ∧ ((e = 0 ∧ t.size ≤ 510 ∧ plSmall l = true ∧ l.length ≤ 1000 ∧ a.size ≤ 1000 ∧ mayC v a.data.toList (plOf l) = true ∧ (textL v a.data.toList (plOf l)).map upper = t.data.toList.map upper) ∨ (e ≠ 0 ∧ v = 0 ∧ a = ⟨#[]⟩ ∧ l = [])) := by
 by_cases hbig : 510 < t.size
 ·exact ⟨0, ⟨#[]⟩, [], 40, by unfold cmd_Parse.f; rw [if_pos hbig, if_pos hs], .inr ⟨by decide, rfl, rfl, rfl⟩⟩
 ·have herr : ∀ {o : Option PRes}, o = some errP → ∃ v a l e, o = some (v, a, l, e) ∧ ((e = 0 ∧ t.size ≤ 510 ∧ plSmall l = true ∧ l.length ≤ 1000 ∧ a.size ≤ 1000 ∧ mayC v a.data.toList (plOf l) = true ∧ (textL v a.data.toList (plOf l)).map upper = t.data.toList.map upper) ∨ (e ≠ 0 ∧ v = 0 ∧ a = ⟨#[]⟩ ∧ l = [])) :=
   fun h => ⟨0, ⟨#[]⟩, [], 4, h, .inr ⟨by decide, rfl, rfl, rfl⟩⟩
  unfold cmd_Parse.f
  rw [if_neg hbig]
  cases hf : ([1, 2, 3, 4, 5, 6] : List Int).find? (fun v => parMatch t v) with
  | none => exact herr rfl
  | some v =>
   simp only
   have hm := List.find?_some hf
   have hv : v = 1 ∨ v = 2 ∨ v = 3 ∨ v = 4 ∨ v = 5 ∨ v = 6 := by
    have := List.mem_of_find?_eq_some hf
    simpa using this
   obtain ⟨w, rest, ht, hw⟩ : ∃ w rest, t.data.toList = w ++ rest ∧ w.map upper = (wordB v).data.toList := by
    unfold parMatch Lib.hasPrefix at hm
    rw [List.isPrefixOf_iff_prefix] at hm
    refine ⟨t.data.toList.take (wordB v).size, t.data.toList.drop (wordB v).size, (List.take_append_drop _ _).symm, ?_⟩
    obtain ⟨z, hz⟩ := hm
    rw [List.map_take, ← hz, ← len_eq (wordB v), List.take_left]
   have harg : argOf t v = ⟨rest.toArray⟩ := by
    refine ba_ext ?_
    unfold argOf
    have hwl : w.length = (wordB v).size := by rw [← len_eq, ← hw, List.length_map]
    rw [Lib.extract_data, ht, ← hwl, List.drop_left, List.take_of_length_le]
    have := congrArg List.length ht
    rw [len_eq, List.length_append] at this
    omega
   have hlen : rest.length ≤ 510 := by
    have := congrArg List.length ht
    rw [len_eq, List.length_append] at this
    omega
   rw [harg]
   have hnil : plSmall ([] : List S49) = true := by decide
   unfold tryV
   by_cases hv34 : v = 3 ∨ v = 4
   ·rw [if_pos hv34, path_eq _ (by rw [mk_size]; omega)]
    simp only [Option.bind_some]
    cases hp : pathF [] rest with
    | none => simp only; rw [if_neg (by show ¬ 510 < (0 : Nat); omega), if_neg (by decide)]; exact herr rfl
    | some q =>
     obtain ⟨a, r⟩ := q
     obtain ⟨hrest, hmp⟩ := pathF_sound rest [] a r hp
     rw [List.nil_append] at hrest
     simp only
     have hrl : r.length ≤ 510 ∧ a.length ≤ 510 := by
      have := congrArg List.length hrest
      simp only [List.length_cons, List.length_append] at this
      omega
     rw [mk_size, if_neg (by omega), if_pos trivial]
     obtain ⟨ts, hts⟩ : ∃ ts, toldF r.length r = ts := ⟨_, rfl⟩
     have hsm : ∀ x ∈ ts, x.1.1.length ≤ r.length ∧ x.1.2.length ≤ r.length := fun x hx => (toldF_small r.length r x (hts ▸ hx)).2
     have htl : ts.length ≤ 510 := by have := toldF_len r.length r; rw [hts] at this; omega
     have hsound := told_sound r.length r
     rw [hts] at hsound
     rw [hts]
     by_cases hbad : (usedF r.length ts != (r.length : Int) || Lib.hasSuffix r [32]) = true
     ·rw [if_pos hbad]; exact herr rfl
     ·rw [if_neg hbad]
      simp only [Bool.or_eq_true, bne_iff_ne, ne_eq, not_or, Decidable.not_not, Bool.not_eq_true] at hbad
      obtain ⟨hused, hnsuf⟩ := hbad
      have hpl : plSmall (ts.map toPar) = true := by
       unfold plSmall
       rw [Bool.and_eq_true, decide_eq_true_eq, List.all_eq_true]
       refine ⟨by rw [List.length_map]; omega, fun p hp => ?_⟩
       obtain ⟨x, hx, rfl⟩ := List.mem_map.1 hp
       have := hsm x hx
       rw [Bool.and_eq_true, decide_eq_true_eq, decide_eq_true_eq]
       show (⟨x.1.1.toArray⟩ : ByteArray).size ≤ _ ∧ (⟨x.1.2.toArray⟩ : ByteArray).size ≤ _
       rw [mk_size, mk_size]
       omega
      have hplof : plOf (ts.map toPar) = ts.map (·.1) := by
       unfold plOf
       rw [List.map_map]
       refine List.map_congr_left fun x _ => ?_
       show ((⟨x.1.1.toArray⟩ : ByteArray).data.toList, (⟨x.1.2.toArray⟩ : ByteArray).data.toList) = x.1
       simp
      rw [may_eq 0 v ⟨a.toArray⟩ _ (by rw [mk_size]; omega) hpl]
      simp only [Option.bind_some]
      cases hmc : mayC v (⟨a.toArray⟩ : ByteArray).data.toList (plOf (ts.map toPar)) with
      | false => rw [if_neg (by decide)]; exact herr rfl
      | true =>
       rw [if_pos rfl]
       refine ⟨v, ⟨a.toArray⟩, ts.map toPar, 0, rfl, .inl ⟨rfl, by omega, hpl, by rw [List.length_map]; omega, by rw [mk_size]; omega, hmc, ?_⟩⟩
       have hr : r.map upper = (paramsT (ts.map (·.1))).map upper := by
        by_cases hts0 : ts = []
        ·rw [hts0] at hused ⊢
         have h0 : r.length = 0 := by
          unfold usedF at hused
          simp only [List.getLast?_nil] at hused
          omega
         rw [List.length_eq_zero_iff.1 h0]; rfl
        ·refine hsound (fun x hx => ?_) hts0 hnsuf
         unfold usedF at hused
         rw [hx] at hused
         simp only at hused
         have : x.2.length = 0 := by omega
         exact List.length_eq_zero_iff.1 this
       have e1 : (⟨a.toArray⟩ : ByteArray).data.toList = a := by simp
       rw [hplof, ht, hrest, e1]
       unfold textL
       rw [if_pos hv34, List.map_append, word_up, List.map_append (l₁ := w), hw]
       simp [hr]
   ·rw [if_neg hv34, may_eq 0 v ⟨rest.toArray⟩ [] (by rw [mk_size]; omega) hnil]
    simp only [Option.bind_some]
    cases hmc : mayC v (⟨rest.toArray⟩ : ByteArray).data.toList (plOf ([] : List S49)) with
    | false => rw [if_neg (by decide)]; exact herr rfl
    | true =>
     rw [if_pos rfl]
     refine ⟨v, ⟨rest.toArray⟩, [], 0, rfl, .inl ⟨rfl, by omega, hnil, by decide, by rw [mk_size]; omega, hmc, ?_⟩⟩
     have e1 : (⟨rest.toArray⟩ : ByteArray).data.toList = rest := by simp
     rw [ht, e1]
     unfold textL
     rw [if_neg hv34, List.map_append, word_up, List.map_append (l₁ := w), hw]
     simp [plOf, paramsT]
end Go.Proofs.YtljkopbalejcgaaDoor.P
end
section
namespace Go.Proofs.YtljkopbalejcgaaDoor.P
open Go.RowKit Go.Proofs.YtljkopbalejcgaaDoorW.PrintWords Go.Proofs.YtljkopbalejcgaaDoorW.PrintLast Go.Proofs.YtljkopbalejcgaaDoorW.PrintMore
attribute [local go_sem] max2_int min2_int max_two min_two max_three min_three max_four min_four
set_option linter.unusedVariables false
set_option linter.unusedSimpArgs false
open Go Go.Lib
def otherAt (which most : Int) (k : Nat) (c : UInt8) : UInt8 :=
 if (k : Int) < most ∧ bits .and .u64 (which / 2 ^ (k % 64)) 1 = 1 ∧ ((97 ≤ (c.toNat : Int) ∧ (c.toNat : Int) ≤ 122) ∨ (65 ≤ (c.toNat : Int) ∧ (c.toNat : Int) ≤ 90)) then c ^^^ 32 else c
def otherL (f : Nat → UInt8 → UInt8) (l : List UInt8) (k : Nat) : List UInt8 := (l.take k).mapIdx f ++ l.drop k
theorem otherL_len (f : Nat → UInt8 → UInt8) (l : List UInt8) (k : Nat) : (otherL f l k).length = l.length := by
 unfold otherL; simp; omega
theorem otherL_at (f : Nat → UInt8 → UInt8) (l : List UInt8) (k : Nat) (h : k < l.length) : (otherL f l k)[k]'(by rw [otherL_len]; exact h) = l[k] := by
 unfold otherL
 have e : ((l.take k).mapIdx f).length = k := by simp; omega
 rw [List.getElem_append_right (by omega)]
 simp [e]
theorem otherL_succ (f : Nat → UInt8 → UInt8) (l : List UInt8) (k : Nat) (h : k < l.length) : (otherL f l k).set k (f k l[k]) = otherL f l (k + 1) := by
 unfold otherL
 have e : ((l.take k).mapIdx f).length = k := by simp; omega
 have e2 : (l.take k).length = k := by simp; omega
 rw [List.set_append_right _ _ (by omega), e, Nat.sub_self, List.drop_eq_getElem_cons h, List.set_cons_zero, List.take_succ_eq_append_getElem h, List.mapIdx_append]
 simp [e2]
theorem otherL_keep (f : Nat → UInt8 → UInt8) (l : List UInt8) (k : Nat) (h : k < l.length) (hf : f k l[k] = l[k]) : otherL f l k = otherL f l (k + 1) := by
 rw [← otherL_succ f l k h, hf]
 have hat := otherL_at f l k h
 refine List.ext_getElem (by rw [List.length_set]) fun j h1 h2 => ?_
 rw [List.getElem_set]
 split
 ·rename_i e; subst e; exact hat
 ·rfl
theorem otherL_zero (f : Nat → UInt8 → UInt8) (l : List UInt8) : otherL f l 0 = l := by unfold otherL; simp
theorem otherL_all (f : Nat → UInt8 → UInt8) (l : List UInt8) : otherL f l l.length = l.mapIdx f := by unfold otherL; simp
theorem otherL_end (f : Nat → UInt8 → UInt8) (l : List UInt8) (k : Nat) (hk : k ≤ l.length) (hf : ∀ j c, k ≤ j → f j c = c) : otherL f l k = l.mapIdx f := by
 refine List.ext_getElem? fun j => ?_
 have e : ((l.take k).mapIdx f).length = k := by simp; omega
 unfold otherL
 by_cases hj : j < k
 ·rw [List.getElem?_append_left (by omega), List.getElem?_mapIdx, List.getElem?_mapIdx, List.getElem?_take, if_pos hj]
 ·rw [List.getElem?_append_right (by omega), e, List.getElem?_drop, List.getElem?_mapIdx, show k + (j - k) = j from by omega]
  cases l[j]? with
  | none => rfl
  | some c => rw [Option.map_some, hf j c (by omega)]
theorem bytes_all' (p : UInt8 → Bool) (h : (List.range 256).all (fun n => p (UInt8.ofNat n)) = true) (c : UInt8) : p c = true := by
 have := List.all_eq_true.1 h c.toNat (List.mem_range.2 c.toNat_lt)
 rwa [UInt8.ofNat_toNat] at this
theorem xor_32 (c : UInt8) : bits .xor .u8 (c.toNat : Int) 32 = ((c ^^^ 32).toNat : Int) := by
 have := bytes_all' (fun c => bits .xor .u8 (c.toNat : Int) 32 == ((c ^^^ 32).toNat : Int)) (by decide +kernel) c
 exact eq_of_beq this
set_option maxHeartbeats 2000000 in
set_option maxRecDepth 100000 in
theorem other_any (s : ByteArray) (which most : Int) (w : World) (hs : s.size ≤ 140737488351232) (hw0 : 0 ≤ which) (hw1 : which ≤ 18446744073709551615) (hm0 : -9223372036854775808 ≤ most) (hm1 : most ≤ 9223372036854775807) :
  Calls Tryd.prog 15 #[.string s, .int .u64 which, .int .i64 most] w fun e w' => e = .returned (.string ⟨(s.data.toList.mapIdx (otherAt which most)).toArray⟩) ∧ Below w.heap.size w w' := by
 have hcv := _root_.Go.Lib.run_convert_string_bytes (P := Tryd.prog) w 9 59 5 s Tryd.underlying9 Tryd.underlying59 Tryd.underlying5
 have hrow := brow_conv w 5 s
 have hbel := below_conv w 5 s
 have hl := len_eq s
 generalize bytesWorld w 5 s = W1 at hcv hrow hbel
 generalize grownCap w s.size 0 5 = cap at hcv
 generalize s.data.toList = l at hrow hl ⊢
 have HR : Aside0 (BRow W1 w.heap.size l) := ⟨hrow⟩
 have HB : Aside0 (Below w.heap.size w W1) := ⟨hbel⟩
 have HL := Lib.hid hl
 clear hrow hbel hl
 go_enter Tryd.func15, Tryd.ntmps15
 go_wp2
 go_loopg [8] s.size (fun gk i wr => ∃ k : Nat, k ≤ s.size ∧ s.size - k ≤ gk ∧ i = .int .i64 k ∧ Aside0 (BRow wr w.heap.size (otherL (otherAt which most) l k)) ∧ Aside0 (Below w.heap.size w wr))
 case atStart => exact ⟨0, by omega, by omega, rfl, ⟨by rw [otherL_zero]; exact HR.out⟩, HB⟩
 case round =>
  clear HR HB hcv
  obtain ⟨k, hk, hg, rfl, HR, HB⟩ := hrel
  have hend : ∀ (hx : k = s.size ∨ most ≤ (k : Int)), Aside0 (otherL (otherAt which most) l k = l.mapIdx (otherAt which most)) := fun hx => ⟨by
   rcases hx with rfl | hx
   ·rw [← HL.out]; exact otherL_all _ l
   ·exact otherL_end _ l k (by rw [HL.out]; exact hk) fun j c hj => by unfold otherAt; rw [if_neg (by omega)]⟩
  by_cases hlt : k < s.size
  ·have hlt' : k < l.length := by rw [HL.out]; exact hlt
   by_cases hmm : (k : Int) < most
   ·have hat := otherL_at (otherAt which most) l k hlt'
    have hcell := HR.out k (by rw [otherL_len]; exact hlt')
    rw [hat] at hcell
    obtain ⟨hc, hf⟩ := hcell
    have HS := Aside0.mk (otherL_succ (otherAt which most) l k hlt')
    have HK := Aside0.mk (otherL_keep (otherAt which most) l k hlt')
    generalize l[k] = c at hc HS HK
    clear hat hend
    have hb : 0 ≤ (c.toNat : Int) ∧ (c.toNat : Int) ≤ 255 := by have := c.toNat_lt; omega
    have HX := Aside0.mk (xor_32 c)
    go_wp2
    all_goals go_roundg (s.size - (k + 1))
    all_goals try (case measure => omega)
    all_goals
     refine ⟨k + 1, by omega, by omega, by go_num, ⟨?_⟩, ⟨?_⟩⟩
     ·first
      | (rw [← HK.out (by unfold otherAt; rw [if_neg (by rintro ⟨_, h1, h2⟩; first | omega | contradiction)])]; exact HR.out)
      | (rw [← HS.out, HX.out, show otherAt which most k c = c ^^^ 32 from by unfold otherAt; rw [if_pos ⟨hmm, by assumption, by omega⟩]]; exact brow_set HR.out k (by rw [otherL_len]; exact hlt') _)
     ·first
      | exact HB.out
      | exact HB.out.setCell (p := ⟨w.heap.size, k, none⟩) (Nat.le_refl _) _
   ·have he := hend (.inr (by omega))
    have hs2 := brow_str (P := Tryd.prog) HR.out 59 5 9 Tryd.underlying59 Tryd.underlying5 Tryd.underlying9 cap
    rw [otherL_len, HL.out, he.out] at hs2
    clear hend he
    go_wp2
    go_ret
    exact ⟨rfl, HB.out⟩
  ·have e : k = s.size := by omega
   have he := hend (.inl e)
   have hs2 := brow_str (P := Tryd.prog) HR.out 59 5 9 Tryd.underlying59 Tryd.underlying5 Tryd.underlying9 cap
   rw [otherL_len, HL.out, he.out] at hs2
   clear hend he
   subst e
   go_wp2
   go_ret
   exact ⟨rfl, HB.out⟩
def mailroomlaw07_other.f (a0 : ByteArray) (a1 a2 : Int) : Option ByteArray := if a0.size ≤ 140737488351232 ∧ (0 ≤ a1 ∧ a1 ≤ 18446744073709551615) ∧ -9223372036854775808 ≤ a2 ∧ a2 ≤ 9223372036854775807 then some ⟨(a0.data.toList.mapIdx (otherAt a1 a2)).toArray⟩ else none
theorem mailroomlaw07_other.calls (a0 : ByteArray) (a1 a2 : Int) (r : ByteArray) (w : World) (h : mailroomlaw07_other.f a0 a1 a2 = some r) :
  Calls Tryd.prog 15 #[.string a0, .int .u64 a1, .int .i64 a2] w fun e w' => e = .returned (.string r) ∧ Below w.heap.size w w' := by
 unfold mailroomlaw07_other.f at h
 split at h
 ·rename_i hs
  obtain rfl := Option.some.inj h
  exact other_any a0 a1 a2 w hs.1 hs.2.1.1 hs.2.1.2 hs.2.2.1 hs.2.2.2
 ·simp at h
end Go.Proofs.YtljkopbalejcgaaDoor.P
end
