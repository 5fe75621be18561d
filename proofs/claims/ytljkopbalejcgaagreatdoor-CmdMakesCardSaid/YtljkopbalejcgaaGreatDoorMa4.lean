import Derived.Test.YtljkopbalejcgaaGreatDoorMa3
section
namespace Go.Proofs.YtljkopbalejcgaaGreatDoor.P
open Go.RowKit Go.Proofs.YtljkopbalejcgaaGreatDoorW.PrintWords Go.Proofs.YtljkopbalejcgaaGreatDoorW.PrintLast Go.Proofs.YtljkopbalejcgaaGreatDoorW.PrintMore
attribute [local go_sem] max2_int min2_int max_two min_two max_three min_three max_four min_four
set_option linter.unusedVariables false
set_option linter.unusedSimpArgs false
open Go Go.Lib
def CmdAt (base g : Nat) (vb : Int) (a : ByteArray) (u : Value) (xs : List S56) (W : World) : Prop :=
 Kd.R k56 56 W base (fun _ => True) u xs ∧ W.heap[g]? = some (.cells #[.int .u8 vb, .string a, u] 27 (0, 0))
def KeepT (g : Nat) (W W' : World) : Prop := ∀ k cs t, W.heap[k]? = some (.cells cs t (0, 0)) → t ≠ 56 → k ≠ g → W'.heap[k]? = some (.cells cs t (0, 0))
set_option maxHeartbeats 1000000 in
theorem mail1_calls (w0 W : World) (base g : Nat) (hbase : base ≤ W.heap.size) (o q : Bool) (n v a : ByteArray) (vb : Int) (u : Value) (xs : List S56) (hl : xs.length ≤ 1000000) (hg : base ≤ g)
  (hC : CmdAt base g vb a u xs W) (HB0 : Below base w0 W) :
  Calls Tryz.prog 26 (#[.bool o, .bool q, .string n, .string v] ++ #[.pointer (some ⟨g, 0, none⟩)]) W fun e W' => e = .returned (.tuple #[]) ∧ (∃ u', CmdAt base g vb a u' (if (o && q) = true then xs ++ [⟨n, v⟩] else xs) W') ∧ Below base w0 W' ∧ KeepT g W W' := by
 have HC := Aside0.mk hC
 have HB := Aside0.mk HB0
 clear HB0
 obtain ⟨hR, hk⟩ := hC
 obtain ⟨Ao, co, rfl⟩ := Kd.R_slice hR
 have HR := Aside0.mk hR
 have HK := Aside0.mk hk
 have hc2 : W.cell? ⟨g, 2, none⟩ = some (.slice Ao xs.length co) := (blk_cell hk 2).trans rfl
 have hf2 := blk_frozen hk 2
 have HNE := Aside0.mk (Kd.R_types HR.out HK.out (by decide)).1
 clear hR hk
 cases o with
 | false =>
  go_enter Tryz.func26, Tryz.ntmps26
  go_wp2
  refine bodyPost_end (v := .tuple #[]) (results_none rfl _ _ _) rfl ?_
  exact ⟨rfl, ⟨_, HC.out⟩, HB.out, fun k cs t h _ _ => h⟩
 | true =>
  cases q with
  | false =>
   go_enter Tryz.func26, Tryz.ntmps26
   go_wp2
   refine bodyPost_end (v := .tuple #[]) (results_none rfl _ _ _) rfl ?_
   exact ⟨rfl, ⟨_, HC.out⟩, HB.out, fun k cs t h _ _ => h⟩
  | true =>
   go_enter Tryz.func26, Tryz.ntmps26
   go_wp2_with (at_builtin; refine Kd.R_append k56 (w0 := w0) base rfl (.tmp 14) (.tmp 18) 25 56 (.agg #[(.string ⟨#[]⟩), (.string ⟨#[]⟩)]) 32 rfl Tryz.underlying25 info56 rfl (by decide) (by omega) (.slice Ao xs.length co) xs ⟨n, v⟩ [.string n, .string v] (fun _ => True) (fun _ => False) rfl rfl ?aP (fun _ hk => hk.elim) ?aF ?aO ?aB ?aS ?aL ?_; (case aP => exact k56_mkM _ _ _ _); (case aF => exact fun _ _ => trivial); (case aO => exact HR.out); (case aB => exact HB.out); (case aS => exact hbase); (case aL => omega); intro v1 W1 ho hb hgr hat; obtain ⟨A1, c1, rfl⟩ := Kd.R_slice ho; have hk1 := blk_grown HK.out hgr (fun e => (HNE.out _ e.symm).2 rfl); have hc1 : W1.cell? ⟨g, 2, none⟩ = some (.slice Ao xs.length co) := (blk_cell hk1 2).trans rfl; have hf1 := blk_frozen hk1 2; have HK1 := Aside0.mk hk1; have HO := Aside0.mk ho; have HB1 := Aside0.mk hb; have HGR := Aside0.mk hgr; clear hk1 ho hb hgr hat)
   refine bodyPost_end (v := .tuple #[]) (results_none rfl _ _ _) rfl ?_
   have ho := HO.out
   rw [show (xs ++ [(⟨n, v⟩ : S56)]).length = xs.length + 1 from by simp] at ho
   refine ⟨rfl, ⟨.slice A1 (xs.length + 1) c1, Kd.R_set ho HK1.out (by decide) 2 _, blk_put HK1.out 2 _ rfl⟩, HB1.out.setCell (p := ⟨g, 2, none⟩) hg _, fun k cs t hk ht hkg => ?_⟩
   have hne := (Kd.R_types HR.out hk (by intro q hq; have hq' : q ∈ [56] := hq; simp at hq'; subst hq'; exact fun e => ht e.symm)).1
   exact (Below.heap_setCell W1 ⟨g, 2, none⟩ _ k hkg).trans (blk_grown hk HGR.out (fun e => (hne _ e.symm).2 rfl))
def idByte (c : UInt8) : Bool := (decide (97 ≤ c) && decide (c ≤ 122)) || (decide (65 ≤ c) && decide (c ≤ 90)) || (decide (48 ≤ c) && decide (c ≤ 57)) || c == 45
theorem idByte_int (c : UInt8) : idByte c = ((decide ((97 : Int) ≤ (c.toNat : Int)) && decide ((c.toNat : Int) ≤ 122)) || (decide ((65 : Int) ≤ (c.toNat : Int)) && decide ((c.toNat : Int) ≤ 90)) || (decide ((48 : Int) ≤ (c.toNat : Int)) && decide ((c.toNat : Int) ≤ 57)) || ((c.toNat : Int) == 45)) := by
 unfold idByte; rw [u8_beq c 45, Bool.eq_iff_iff]; simp [UInt8.le_iff_toNat_le]; omega
set_option maxHeartbeats 1000000 in
theorem mail2_calls (c : UInt8) (w : World) : Calls Tryz.prog 29 (#[.int .u8 c.toNat] ++ #[]) w fun e w' => e = .returned (.bool (!idByte c)) ∧ w' = w := by
 have hb : 0 ≤ (c.toNat : Int) ∧ (c.toNat : Int) ≤ 255 := by have := c.toNat_lt; omega
 have HE := Lib.hid (idByte_int c)
 go_enter Tryz.func29, Tryz.ntmps29
 go_wp2
 all_goals
  go_ret
  refine ⟨congrArg (fun b => Ending.returned (.bool b)) ?_, rfl⟩
  rw [HE.out, Bool.eq_iff_iff] <;> simp <;> omega
def mailRow (c5 c2 c3 rq : Bool) (n id : ByteArray) : List S56 :=
 let x0 : List S56 := if (c5 && true) = true then [] ++ [⟨⟨#[83, 73, 90, 69]⟩, n⟩] else []
 let x1 : List S56 := if (c2 && rq) = true then x0 ++ [⟨⟨#[82, 69, 81, 85, 73, 82, 69, 84, 76, 83]⟩, ⟨#[]⟩⟩] else x0
 if (c3 && (!id.toList.isEmpty)) = true then x1 ++ [⟨⟨#[69, 78, 86, 73, 68]⟩, id⟩] else x1
theorem CmdAt.below {base g : Nat} {vb : Int} {a : ByteArray} {u : Value} {xs : List S56} {W W' : World} (h : CmdAt base g vb a u xs W) (hb : Below W.heap.size W W') : CmdAt base g vb a u xs W' := ⟨Kd.R_below h.1 hb, blk_below h.2 hb⟩
theorem CmdAt.drewN {base g : Nat} {vb : Int} {a : ByteArray} {u : Value} {xs : List S56} {W : World} (h : CmdAt base g vb a u xs W) (n : Nat) : CmdAt base g vb a u xs (W.drewN n) := h.below (pw_below_drewN (Below.refl _ _) n)
theorem CmdAt.drew {base g : Nat} {vb : Int} {a : ByteArray} {u : Value} {xs : List S56} {W : World} (h : CmdAt base g vb a u xs W) : CmdAt base g vb a u xs W.drew := h.below (below_drew1 (Below.refl _ _))
theorem GL.drew {W : World} (h : GL W) : GL W.drew := h.of_below (below_drew1 (Below.refl _ _))
theorem GL.drewN {W : World} (h : GL W) (n : Nat) : GL (W.drewN n) := h.of_below (pw_below_drewN (Below.refl _ _) n)
theorem cont_any (g : Nat) (eg : ∀ args w, (callFunc g args).run Tryz.prog w = .ok (.enter g args) w) (p : UInt8 → Bool) (hcl : ∀ c W, Calls Tryz.prog g (#[.int .u8 c.toNat] ++ #[]) W fun e W' => e = .returned (.bool (!p c)) ∧ W' = W)
  (v : ByteArray) (hv : v.size ≤ 140737488351232) (W1 : World) (cap : Nat) :
  Calls Tryz.prog 28 #[.slice (some ⟨W1.heap.size, 0, none⟩) v.size cap, .func (.func g) #[] #[]] (bytesWorld W1 5 v) fun e w' => e = .returned (.bool (!v.data.toList.all p)) ∧ Below W1.heap.size W1 w' := by
 have hrow := brow_conv W1 5 v
 have hbel := below_conv W1 5 v
 have hsz := bytesWorld_size W1 5 v
 generalize bytesWorld W1 5 v = W2 at hrow hbel hsz
 refine (has_byte g #[] eg v.size W1.heap.size cap (fun j => .int .u8 (v.data.toList.getD j 0).toNat) (fun j => !p (v.data.toList.getD j 0)) W2 hv (by omega) ?_ ?_).mono ?_
 ·intro j hj
  have hj' : j < v.data.toList.length := by rw [len_eq]; exact hj
  rw [(hrow j hj').1, getD_at _ j hj']
 ·intro j hj W hW
  exact (hcl _ W).mono fun e W' ⟨he, hw⟩ => ⟨he, by rw [hw]; exact hW⟩
 ·rintro e w' ⟨rfl, hb⟩
  refine ⟨congrArg (fun b => Ending.returned (.bool b)) ?_, below_then hbel hbel.size hb⟩
  rw [Bool.eq_iff_iff]
  simp only [List.any_eq_true, Bool.not_eq_true', List.all_eq_false, List.mem_range]
  constructor
  ·rintro ⟨j, hj, h⟩
   have hj' : j < v.data.toList.length := by rw [len_eq]; exact hj
   exact ⟨v.data.toList[j], List.getElem_mem hj', by rw [getD_at _ j hj'] at h; simpa using h⟩
  ·rintro ⟨x, hx, h⟩
   obtain ⟨j, hj, rfl⟩ := List.getElem_of_mem hx
   exact ⟨j, by rw [← len_eq]; exact hj, by rw [getD_at _ j hj]; simpa using h⟩
set_option maxHeartbeats 2000000 in
set_option maxRecDepth 100000 in
theorem mail_walk (a0 : ByteArray) (b0 b1 b2 b3 b4 b5 : Bool) (b6 a2 : Int) (a3 : Bool) (a4 n : ByteArray) (w : World) (hG : GL w) (hn : code_Show.f a2 = some n) (h4 : a4.size ≤ 140737488351232) (rr : Bool) (hrr : cmd_May.f 1 3 a0 (mailRow b5 b2 b3 a3 n a4) = some rr)
  (r1 : Int) (r2 : ByteArray) (r3 : List S56) (r4 : Int) (HRES : Hid ((if (decide (a2 < 0) || !a4.data.toList.all idByte || decide (32 < (a4.size : Int)) || !rr) = true then (0, ⟨#[]⟩, [], 4) else (3, a0, mailRow b5 b2 b3 a3 n a4, 0)) = (r1, r2, r3, r4))) :
  Calls Tryz.prog 6 #[.string a0, .agg #[.bool b0, .bool b1, .bool b2, .bool b3, .bool b4, .bool b5, .int .i64 b6], .int .i64 a2, .bool a3, .string a4] w fun e w' => ∃ v2_ : Value, e = .returned (.tuple #[.agg #[.int .u8 r1, .string r2, v2_], .int .i64 r4]) ∧ Kd.R k56 56 w' w.heap.size (fun _ => True) v2_ r3 ∧ Below w.heap.size w w' := by
 obtain ⟨x0, hx0⟩ : ∃ x0 : List S56, x0 = (if (b5 && true) = true then [] ++ [⟨⟨#[83, 73, 90, 69]⟩, n⟩] else []) := ⟨_, rfl⟩
 have hl0 : x0.length ≤ 1 := by rw [hx0]; split <;> simp
 obtain ⟨x1, hx1⟩ : ∃ x1 : List S56, x1 = (if (b2 && a3) = true then x0 ++ [⟨⟨#[82, 69, 81, 85, 73, 82, 69, 84, 76, 83]⟩, ⟨#[]⟩⟩] else x0) := ⟨_, rfl⟩
 have hl1 : x1.length ≤ 2 := by
  rw [hx1]
  split
  ·rw [List.length_append]; simp; omega
  ·omega
 obtain ⟨row, hx2⟩ : ∃ x2 : List S56, x2 = (if (b3 && (!a4.toList.isEmpty)) = true then x1 ++ [⟨⟨#[69, 78, 86, 73, 68]⟩, a4⟩] else x1) := ⟨_, rfl⟩
 have hrow : mailRow b5 b2 b3 a3 n a4 = row := by rw [hx2, hx1, hx0]; rfl
 rw [hrow] at hrr HRES
 have HX0 := Aside0.mk hx0
 have HX1 := Aside0.mk hx1
 have HX2 := Aside0.mk hx2
 clear hx0 hx1 hx2 hrow
 obtain ⟨W0, hW0⟩ : ∃ W0, W0 = ((w.alloc (.cells #[.bool b0, .bool b1, .bool b2, .bool b3, .bool b4, .bool b5, .int .i64 b6] 23)).alloc (.cells #[.int .u8 0, .string ⟨#[]⟩, .slice none 0 0] 27)).alloc (.cells #[.int .u8 3, .string a0, .slice none 0 0] 27) := ⟨_, rfl⟩
 have hb0 : Below w.heap.size w W0 := by rw [hW0]; repeat (first | exact Below.refl _ _ | apply below_alloc)
 have hk6 : W0.heap[w.heap.size]? = some (.cells #[.bool b0, .bool b1, .bool b2, .bool b3, .bool b4, .bool b5, .int .i64 b6] 23 (0, 0)) := by rw [hW0]; exact blk_alloc (blk_alloc (heap_alloc_new _ _) _) _
 have hk10 : W0.heap[w.heap.size + 1]? = some (.cells #[.int .u8 0, .string ⟨#[]⟩, .slice none 0 0] 27 (0, 0)) := by rw [hW0]; exact blk_alloc (by have := heap_alloc_new (w.alloc (.cells #[.bool b0, .bool b1, .bool b2, .bool b3, .bool b4, .bool b5, .int .i64 b6] 23)) (.cells #[.int .u8 0, .string ⟨#[]⟩, .slice none 0 0] 27); rwa [World.size_alloc] at this) _
 have hk12 : W0.heap[w.heap.size + 1 + 1]? = some (.cells #[.int .u8 3, .string a0, .slice none 0 0] 27 (0, 0)) := by
  rw [hW0]
  have := heap_alloc_new ((w.alloc (.cells #[.bool b0, .bool b1, .bool b2, .bool b3, .bool b4, .bool b5, .int .i64 b6] 23)).alloc (.cells #[.int .u8 0, .string ⟨#[]⟩, .slice none 0 0] 27)) (.cells #[.int .u8 3, .string a0, .slice none 0 0] 27)
  rwa [World.size_alloc, World.size_alloc] at this
 have hat : CmdAt w.heap.size (w.heap.size + 1 + 1) 3 a0 (.slice none 0 0) [] W0 := ⟨Kd.R_nil _ _ _ _ _, hk12⟩
 have hG0 : GL W0 := hG.of_below hb0
 have hc65 : W0.cell? ⟨w.heap.size, 5, none⟩ = some (.bool b5) := blk_cell hk6 5
 have HB0 := Aside0.mk hb0
 have HK6 := Aside0.mk hk6
 have HK10 := Aside0.mk hk10
 have HAT := Aside0.mk hat
 have HG0 := Aside0.mk hG0
 have HLT : Aside0 (w.heap.size < W0.heap.size) := ⟨by rw [hW0]; simp; omega⟩
 clear hb0 hk6 hk10 hk12 hat hG0 hG
 go_enter Tryz.func6, Tryz.ntmps6
 go_wp2_with fail
 rw [← hW0]
 clear hW0
 go_region_held3 (fun W => W.cell? ⟨w.heap.size, 5, none⟩ = some (.bool b5)) (first | exact hc65 | assumption) (first
  | (go_at_call 27; refine (code_Show.calls a2 n _ hn (by first | exact HG0.out | exact HG0.out.drew | exact HG0.out.drewN _)).mono ?_; rintro e w1 ⟨rfl, hb⟩; have hc65b : w1.cell? ⟨w.heap.size, 5, none⟩ = some (.bool b5) := (hb.cell HLT.out).trans hc65; have HB1 : Aside0 (Below w.heap.size w w1) := ⟨below_step (below_drew1 HB0.out) hb⟩; have HAT1 := Aside0.mk (HAT.out.drew.below hb); have HK61 := Aside0.mk (blk_below (w := W0.drew) HK6.out hb); have HK101 := Aside0.mk (blk_below (w := W0.drew) HK10.out hb); clear hb)
  | (go_at_call 26; refine (mail1_calls w _ w.heap.size (w.heap.size + 1 + 1) HB1.out.size b5 true ⟨#[83, 73, 90, 69]⟩ n a0 3 (.slice none 0 0) [] (Nat.zero_le _) (by omega) HAT1.out HB1.out).mono ?_; rintro e w2 ⟨rfl, ⟨u1, h1⟩, h2, h3⟩; rw [← HX0.out] at h1; have HAT2 := Aside0.mk h1; have HB2 := Aside0.mk h2; have hk62 := h3 _ _ _ HK61.out (by decide) (by omega); have HK62 := Aside0.mk hk62; have HK102 := Aside0.mk (h3 _ _ _ HK101.out (by decide) (by omega)); have hc65c : w2.cell? ⟨w.heap.size, 5, none⟩ = some (.bool b5) := blk_cell hk62 5; have hc62 : w2.cell? ⟨w.heap.size, 2, none⟩ = some (.bool b2) := blk_cell hk62 2; clear h1 h2 h3 hk62 HAT1 HB1 HK61 HK101 HAT HB0 HK6 HK10 hc65 hc65b))
 go_upto_region 5 with (first
  | (go_at_call 26; refine (mail1_calls w _ w.heap.size (w.heap.size + 1 + 1) HB2.out.size b2 a3 ⟨#[82, 69, 81, 85, 73, 82, 69, 84, 76, 83]⟩ ⟨#[]⟩ a0 3 u1 x0 (by omega) (by omega) HAT2.out HB2.out).mono ?_; rintro e w3 ⟨rfl, ⟨u2, h1⟩, h2, h3⟩; rw [← HX1.out] at h1; have HAT3 := Aside0.mk h1; have HB3 := Aside0.mk h2; have hk62 := h3 _ _ _ HK62.out (by decide) (by omega); have HK63 := Aside0.mk hk62; have HK103 := Aside0.mk (h3 _ _ _ HK102.out (by decide) (by omega)); have hc63 : w3.cell? ⟨w.heap.size, 3, none⟩ = some (.bool b3) := blk_cell hk62 3; clear h1 h2 h3 hk62 HAT2 HB2 HK62 HK102 hc65c hc62))
 go_upto_region 6 with (first
  | (go_at_call 26; refine (mail1_calls w _ w.heap.size (w.heap.size + 1 + 1) HB3.out.size b3 (!a4.toList.isEmpty) ⟨#[69, 78, 86, 73, 68]⟩ a4 a0 3 u2 x1 (by omega) (by omega) HAT3.out HB3.out).mono ?_; rintro e w4 ⟨rfl, ⟨u3, h1⟩, h2, h3⟩; rw [← HX2.out] at h1; have HAT4 := Aside0.mk h1; have HB4 := Aside0.mk h2; have HK104 := Aside0.mk (h3 _ _ _ HK103.out (by decide) (by omega)); clear h1 h2 h3 HAT3 HB3 HK63 HK103 hc63))
 have hcv := _root_.Go.Lib.run_convert_string_bytes (P := Tryz.prog) w4 9 64 5 a4 Tryz.underlying9 Tryz.underlying64 Tryz.underlying5
 generalize grownCap _ a4.size 0 5 = cap at hcv
 have hcont := cont_any 29 (enters_of Tryz.func29 (by kernel_rfl) rfl) idByte mail2_calls a4 h4 w4 cap
 generalize a4.data.toList.all idByte = lt at hcont HRES
 generalize bytesWorld w4 5 a4 = W5 at hcv hcont
 obtain ⟨A3, c3, rfl⟩ := Kd.R_slice HAT4.out.1
 go_upto_region 7 with (first | (go_at_call 28; refine hcont.mono ?_; rintro e w6 ⟨rfl, hb⟩; have HAT6 := Aside0.mk (HAT4.out.below hb); have HK106 := Aside0.mk (blk_below HK104.out hb); have HB6 : Aside0 (Below w.heap.size w w6) := ⟨below_step HB4.out hb⟩; clear hb hcont hcv HAT4 HK104 HB4))
 have hk126 := HAT6.out.2
 have hk106 := HK106.out
 have hc0 : w6.cell? ⟨w.heap.size + 1 + 1, 0, none⟩ = some (.int .u8 3) := blk_cell hk126 0
 have hc1 : w6.cell? ⟨w.heap.size + 1 + 1, 1, none⟩ = some (.string a0) := blk_cell hk126 1
 have hc2 : w6.cell? ⟨w.heap.size + 1 + 1, 2, none⟩ = some (.slice A3 row.length c3) := blk_cell hk126 2
 have hb0 : w6.cell? ⟨w.heap.size + 1, 0, none⟩ = some (.int .u8 0) := blk_cell hk106 0
 have hb1 : w6.cell? ⟨w.heap.size + 1, 1, none⟩ = some (.string ⟨#[]⟩) := blk_cell hk106 1
 have hb2 : w6.cell? ⟨w.heap.size + 1, 2, none⟩ = some (.slice none 0 0) := blk_cell hk106 2
 have hg0 := blk_frozen hk106 0
 have hg1 := blk_frozen hk106 1
 have hg2 := blk_frozen hk106 2
 clear hk126 hk106
 by_cases hneg : decide (a2 < 0) = true
 ·have HE : Aside0 ((0 : Int) = r1 ∧ (⟨#[]⟩ : ByteArray) = r2 ∧ ([] : List S56) = r3 ∧ (4 : Int) = r4) := ⟨by have h := HRES; simp only [hneg] at h; simpa [Hid] using h⟩
  clear HRES
  go_wp2
  refine bodyPost_ret (results_ct rfl _ _ (w.heap.size + 1) 27 #[.int .u8 0, .string ⟨#[]⟩, .slice none 0 0] (0, 0) _ rfl (by refine blk_put (cs := #[.int .u8 0, .string ⟨#[]⟩, .slice none 0 0]) ?_ 2 _ rfl; refine blk_put (cs := #[.int .u8 0, .string ⟨#[]⟩, .slice none 0 0]) ?_ 1 _ rfl; refine blk_put (cs := #[.int .u8 0, .string ⟨#[]⟩, .slice none 0 0]) ?_ 0 _ rfl; first | exact HK107.out | exact HK106.out) Tryz.underlying27 rfl (by kernel_rfl)) rfl ?_
  obtain ⟨rfl, rfl, rfl, rfl⟩ := HE.out
  exact ⟨_, rfl, Kd.R_nil _ _ _ _ _, by repeat (first | exact HB6.out | exact HB7.out | refine below_set ?_ (by omega))⟩
 ·rw [Bool.not_eq_true] at hneg
  cases lt with
  | false =>
   have HE : Aside0 ((0 : Int) = r1 ∧ (⟨#[]⟩ : ByteArray) = r2 ∧ ([] : List S56) = r3 ∧ (4 : Int) = r4) := ⟨by have h := HRES; simp only [hneg, Bool.not_false] at h; simpa [Hid] using h⟩
   clear HRES
   go_wp2
   refine bodyPost_ret (results_ct rfl _ _ (w.heap.size + 1) 27 #[.int .u8 0, .string ⟨#[]⟩, .slice none 0 0] (0, 0) _ rfl (by refine blk_put (cs := #[.int .u8 0, .string ⟨#[]⟩, .slice none 0 0]) ?_ 2 _ rfl; refine blk_put (cs := #[.int .u8 0, .string ⟨#[]⟩, .slice none 0 0]) ?_ 1 _ rfl; refine blk_put (cs := #[.int .u8 0, .string ⟨#[]⟩, .slice none 0 0]) ?_ 0 _ rfl; first | exact HK107.out | exact HK106.out) Tryz.underlying27 rfl (by kernel_rfl)) rfl ?_
   obtain ⟨rfl, rfl, rfl, rfl⟩ := HE.out
   exact ⟨_, rfl, Kd.R_nil _ _ _ _ _, by repeat (first | exact HB6.out | exact HB7.out | refine below_set ?_ (by omega))⟩
  | true =>
   by_cases h32 : decide (32 < (a4.size : Int)) = true
   ·have HE : Aside0 ((0 : Int) = r1 ∧ (⟨#[]⟩ : ByteArray) = r2 ∧ ([] : List S56) = r3 ∧ (4 : Int) = r4) := ⟨by have h := HRES; simp only [hneg, h32] at h; simpa [Hid] using h⟩
    clear HRES
    go_wp2
    refine bodyPost_ret (results_ct rfl _ _ (w.heap.size + 1) 27 #[.int .u8 0, .string ⟨#[]⟩, .slice none 0 0] (0, 0) _ rfl (by refine blk_put (cs := #[.int .u8 0, .string ⟨#[]⟩, .slice none 0 0]) ?_ 2 _ rfl; refine blk_put (cs := #[.int .u8 0, .string ⟨#[]⟩, .slice none 0 0]) ?_ 1 _ rfl; refine blk_put (cs := #[.int .u8 0, .string ⟨#[]⟩, .slice none 0 0]) ?_ 0 _ rfl; first | exact HK107.out | exact HK106.out) Tryz.underlying27 rfl (by kernel_rfl)) rfl ?_
    obtain ⟨rfl, rfl, rfl, rfl⟩ := HE.out
    exact ⟨_, rfl, Kd.R_nil _ _ _ _ _, by repeat (first | exact HB6.out | exact HB7.out | refine below_set ?_ (by omega))⟩
   ·rw [Bool.not_eq_true] at h32
    cases rr with
    | false =>
     have HE : Aside0 ((0 : Int) = r1 ∧ (⟨#[]⟩ : ByteArray) = r2 ∧ ([] : List S56) = r3 ∧ (4 : Int) = r4) := ⟨by have h := HRES; simp only [hneg, h32, Bool.not_false] at h; simpa [Hid] using h⟩
     clear HRES
     go_wp2_with (go_at_call 18; refine (cmd_May.calls 1 3 a0 A3 c3 row _ w6 (Kd.R_reads' HAT6.out.1).2.2 (Kd.R_reads' HAT6.out.1).2.1 hrr).mono ?_; rintro e w7 ⟨rfl, hb⟩; have hk127 := blk_below HAT6.out.2 hb; have hk107 := blk_below HK106.out hb; have HAT7 := Aside0.mk (HAT6.out.below hb); have HK107 := Aside0.mk hk107; have HB7 : Aside0 (Below w.heap.size w w7) := ⟨below_step HB6.out hb⟩; have hd0 : w7.cell? ⟨w.heap.size + 1 + 1, 0, none⟩ = some (.int .u8 3) := blk_cell hk127 0; have hd1 : w7.cell? ⟨w.heap.size + 1 + 1, 1, none⟩ = some (.string a0) := blk_cell hk127 1; have hd2 : w7.cell? ⟨w.heap.size + 1 + 1, 2, none⟩ = some (.slice A3 row.length c3) := blk_cell hk127 2; have he0 : w7.cell? ⟨w.heap.size + 1, 0, none⟩ = some (.int .u8 0) := blk_cell hk107 0; have he1 : w7.cell? ⟨w.heap.size + 1, 1, none⟩ = some (.string ⟨#[]⟩) := blk_cell hk107 1; have he2 : w7.cell? ⟨w.heap.size + 1, 2, none⟩ = some (.slice none 0 0) := blk_cell hk107 2; have hf0 := blk_frozen hk107 0; have hf1 := blk_frozen hk107 1; have hf2 := blk_frozen hk107 2; have HK127 := Aside0.mk hk127; clear hb hk127 hk107)
     refine bodyPost_ret (results_ct rfl _ _ (w.heap.size + 1) 27 #[.int .u8 0, .string ⟨#[]⟩, .slice none 0 0] (0, 0) _ rfl (by refine blk_put (cs := #[.int .u8 0, .string ⟨#[]⟩, .slice none 0 0]) ?_ 2 _ rfl; refine blk_put (cs := #[.int .u8 0, .string ⟨#[]⟩, .slice none 0 0]) ?_ 1 _ rfl; refine blk_put (cs := #[.int .u8 0, .string ⟨#[]⟩, .slice none 0 0]) ?_ 0 _ rfl; first | exact HK107.out | exact HK106.out) Tryz.underlying27 rfl (by kernel_rfl)) rfl ?_
     obtain ⟨rfl, rfl, rfl, rfl⟩ := HE.out
     exact ⟨_, rfl, Kd.R_nil _ _ _ _ _, by repeat (first | exact HB6.out | exact HB7.out | refine below_set ?_ (by omega))⟩
    | true =>
     have HE : Aside0 ((3 : Int) = r1 ∧ a0 = r2 ∧ row = r3 ∧ (0 : Int) = r4) := ⟨by have h := HRES; simp only [hneg, h32] at h; simpa [Hid] using h⟩
     clear HRES
     go_wp2_with (go_at_call 18; refine (cmd_May.calls 1 3 a0 A3 c3 row _ w6 (Kd.R_reads' HAT6.out.1).2.2 (Kd.R_reads' HAT6.out.1).2.1 hrr).mono ?_; rintro e w7 ⟨rfl, hb⟩; have hk127 := blk_below HAT6.out.2 hb; have hk107 := blk_below HK106.out hb; have HAT7 := Aside0.mk (HAT6.out.below hb); have HK107 := Aside0.mk hk107; have HB7 : Aside0 (Below w.heap.size w w7) := ⟨below_step HB6.out hb⟩; have hd0 : w7.cell? ⟨w.heap.size + 1 + 1, 0, none⟩ = some (.int .u8 3) := blk_cell hk127 0; have hd1 : w7.cell? ⟨w.heap.size + 1 + 1, 1, none⟩ = some (.string a0) := blk_cell hk127 1; have hd2 : w7.cell? ⟨w.heap.size + 1 + 1, 2, none⟩ = some (.slice A3 row.length c3) := blk_cell hk127 2; have he0 : w7.cell? ⟨w.heap.size + 1, 0, none⟩ = some (.int .u8 0) := blk_cell hk107 0; have he1 : w7.cell? ⟨w.heap.size + 1, 1, none⟩ = some (.string ⟨#[]⟩) := blk_cell hk107 1; have he2 : w7.cell? ⟨w.heap.size + 1, 2, none⟩ = some (.slice none 0 0) := blk_cell hk107 2; have hf0 := blk_frozen hk107 0; have hf1 := blk_frozen hk107 1; have hf2 := blk_frozen hk107 2; have HK127 := Aside0.mk hk127; clear hb hk127 hk107)
     refine bodyPost_ret (results_ct rfl _ _ (w.heap.size + 1) 27 #[.int .u8 3, .string a0, .slice A3 row.length c3] (0, 0) _ rfl (by refine blk_put (cs := #[.int .u8 3, .string a0, .slice none 0 0]) ?_ 2 _ rfl; refine blk_put (cs := #[.int .u8 3, .string ⟨#[]⟩, .slice none 0 0]) ?_ 1 _ rfl; refine blk_put (cs := #[.int .u8 0, .string ⟨#[]⟩, .slice none 0 0]) ?_ 0 _ rfl; exact HK107.out) Tryz.underlying27 rfl (by kernel_rfl)) rfl ?_
     obtain ⟨rfl, rfl, rfl, rfl⟩ := HE.out
     exact ⟨_, rfl, Kd.R_mono (Kd.R_far (p := ⟨w.heap.size + 1, 2, none⟩) (Kd.R_far (p := ⟨w.heap.size + 1, 1, none⟩) (Kd.R_far (p := ⟨w.heap.size + 1, 0, none⟩) (Kd.R_types HAT7.out.1 HK107.out (by decide)) (fun _ hk => hk.2) (.int .u8 3)) (fun _ hk => hk.2) (.string a0)) (fun _ hk => hk.2) (.slice A3 row.length c3)) (fun _ hk => trivial), by repeat (first | exact HB7.out | refine below_set ?_ (by omega))⟩
def cmd_Mail.f (a0 : ByteArray) (b0 b1 b2 b3 b4 b5 : Bool) (b6 a2 : Int) (a3 : Bool) (a4 : ByteArray) : Option (Int × ByteArray × List S56 × Int) :=
 if a4.size ≤ 140737488351232 then (code_Show.f a2).bind fun n => (cmd_May.f 1 3 a0 (mailRow b5 b2 b3 a3 n a4)).bind fun rr => some (if (decide (a2 < 0) || !a4.data.toList.all idByte || decide (32 < (a4.size : Int)) || !rr) = true then (0, ⟨#[]⟩, [], 4) else (3, a0, mailRow b5 b2 b3 a3 n a4, 0)) else none
theorem cmd_Mail.calls (a0 : ByteArray) (a1_0 a1_1 a1_2 a1_3 a1_4 a1_5 : Bool) (a1_6 a2 : Int) (a3 : Bool) (a4 : ByteArray) (r1 : Int) (r2 : ByteArray) (r3 : List S56) (r4 : Int) (w : World) (h : cmd_Mail.f a0 a1_0 a1_1 a1_2 a1_3 a1_4 a1_5 a1_6 a2 a3 a4 = some (r1, r2, r3, r4)) (hG : GL w) :
  Calls Tryz.prog 6 #[.string a0, .agg #[.bool a1_0, .bool a1_1, .bool a1_2, .bool a1_3, .bool a1_4, .bool a1_5, .int .i64 a1_6], .int .i64 a2, .bool a3, .string a4] w fun e w' => ∃ v2_ : Value, e = .returned (.tuple #[.agg #[.int .u8 r1, .string r2, v2_], .int .i64 r4]) ∧ Kd.R k56 56 w' w.heap.size (fun _ => True) v2_ r3 ∧ Below w.heap.size w w' := by
 unfold cmd_Mail.f at h
 split at h
 ·rename_i hs
  obtain ⟨n, hn, h⟩ := Option.bind_eq_some_iff.1 h
  obtain ⟨rr, hrr, h⟩ := Option.bind_eq_some_iff.1 h
  exact mail_walk a0 a1_0 a1_1 a1_2 a1_3 a1_4 a1_5 a1_6 a2 a3 a4 n w hG hn hs rr hrr r1 r2 r3 r4 (Option.some.inj h)
 ·simp at h
end Go.Proofs.YtljkopbalejcgaaGreatDoor.P
end
section
set_option linter.unusedVariables false
set_option linter.unusedSimpArgs false
namespace Go.Proofs.YtljkopbalejcgaaGreatDoor.P
open Go Go.RowKit Go.Lib Go.Proofs.YtljkopbalejcgaaGreatDoorW.PrintWords
theorem bytes_all (p : UInt8 → Bool) (h : (List.range 256).all (fun n => p (UInt8.ofNat n)) = true) (c : UInt8) : p c = true := by
 have := List.all_eq_true.1 h c.toNat (List.mem_range.2 c.toNat_lt)
 rwa [UInt8.ofNat_toNat] at this
theorem idByte_idC (c : UInt8) : idByte c = idC c := by
 have := bytes_all (fun c => idByte c == idC c) (by decide +kernel) c
 exact eq_of_beq this
theorem idByte_val (c : UInt8) (h : idByte c = true) : valByte c = true := by
 have := bytes_all (fun c => !idByte c || valByte c) (by decide +kernel) c
 simp only [h, Bool.not_true, Bool.false_or] at this
 exact this
theorem dig_val (d : Nat) (h : d < 10) : valByte (UInt8.ofNat (48 + d)) = true := by
 have : (List.range 10).all (fun d => valByte (UInt8.ofNat (48 + d))) = true := by decide +kernel
 exact List.all_eq_true.1 this d (List.mem_range.2 h)
theorem dec_val (u : Nat) : (Lib.decDigits u).all valByte = true := by
 induction u using Nat.strongRecOn with
 | _ u ih =>
  by_cases h : u < 10
  ·rw [Lib.decDigits, dif_pos h, List.all_cons, dig_val u h]; rfl
  ·rw [Lib.decDigits, dif_neg h, List.all_append, ih (u / 10) (by omega), List.all_cons, dig_val (u % 10) (by omega)]; rfl
theorem itoa_val (n : Int) (h : 0 ≤ n) : (Lib.itoa n).all valByte = true := by unfold Lib.itoa; rw [if_neg (by omega)]; exact dec_val _
theorem mailRow_ok (c5 c2 c3 rq : Bool) (n id : ByteArray) (hn : n.data.toList.all valByte = true) (hid : id.data.toList.all valByte = true) : paramsOk (plOf (mailRow c5 c2 c3 rq n id)) = true := by
 have h1 : paramOk [83, 73, 90, 69] n.data.toList = true := by unfold paramOk; rw [hn]; decide
 have h2 : paramOk [82, 69, 81, 85, 73, 82, 69, 84, 76, 83] [] = true := by decide
 have h3 : paramOk [69, 78, 86, 73, 68] id.data.toList = true := by unfold paramOk; rw [hid]; decide
 unfold mailRow
 generalize (c2 && rq) = x2
 generalize (c3 && (!id.toList.isEmpty)) = x3
 cases c5 <;> cases x2 <;> cases x3 <;> simp [plOf, paramsOk, parAt, List.range_succ, h1, h2, h3]
theorem mailRow_small (c5 c2 c3 rq : Bool) (n id : ByteArray) (hn : n.size ≤ 140737488351232) (hid : id.size ≤ 140737488351232) : plSmall (mailRow c5 c2 c3 rq n id) = true := by
 unfold mailRow
 generalize (c2 && rq) = x2
 generalize (c3 && (!id.toList.isEmpty)) = x3
 cases c5 <;> cases x2 <;> cases x3 <;> simp [plSmall, hn, hid] <;> decide
def mailBad (a0 : ByteArray) (a2 : Int) (a4 : ByteArray) : Bool :=
 decide (a2 < 0) || !a4.data.toList.all idC || decide (32 < (a4.size : Int)) || !(decide (a0.data.toList = []) || (addrParse a0.data.toList).isSome)
def mailR (a0 : ByteArray) (b2 b3 b5 : Bool) (a2 : Int) (a3 : Bool) (a4 : ByteArray) : Int × ByteArray × List S56 × Int :=
 if mailBad a0 a2 a4 = true then (0, ⟨#[]⟩, [], 4) else (3, a0, mailRow b5 b2 b3 a3 ⟨(Lib.itoa a2).toArray⟩ a4, 0)
theorem cmdMail_eq (a0 : ByteArray) (b0 b1 b2 b3 b4 b5 : Bool) (b6 a2 : Int) (a3 : Bool) (a4 : ByteArray) (ha : a0.size ≤ 1000000) (h4 : a4.size ≤ 1000000) (h0 : -9223372036854775808 ≤ a2) (h1 : a2 ≤ 9223372036854775807) :
  cmd_Mail.f a0 b0 b1 b2 b3 b4 b5 b6 a2 a3 a4 = some (mailR a0 b2 b3 b5 a2 a3 a4) := by
 have hlen := Lib.itoa_length_le a2 h0 h1
 have hns : (⟨(Lib.itoa a2).toArray⟩ : ByteArray).size ≤ 140737488351232 := by show (Lib.itoa a2).toArray.size ≤ _; rw [List.size_toArray]; omega
 have hp : cmd_params.f (mailRow b5 b2 b3 a3 ⟨(Lib.itoa a2).toArray⟩ a4) = some (paramsOk (plOf (mailRow b5 b2 b3 a3 ⟨(Lib.itoa a2).toArray⟩ a4))) := by
  unfold cmd_params.f; rw [if_pos (mailRow_small _ _ _ _ _ _ hns (by omega))]
 have hid : a4.data.toList.all idByte = a4.data.toList.all idC := by congr 1; funext c; exact idByte_idC c
 unfold cmd_Mail.f code_Show.f
 rw [if_pos (by omega), if_pos ⟨h0, h1⟩]
 simp only [Option.bind_some]
 have hm := cmdMay_3 0 a0 ha _ _ hp
 rw [Nat.zero_add] at hm
 rw [hm]
 simp only [Option.bind_some]
 unfold mailR mailBad
 rw [← hid]
 by_cases hneg : a2 < 0
 ·simp [hneg]
 ·cases hall : a4.data.toList.all idByte with
  | false => simp
  | true =>
   rw [mailRow_ok b5 b2 b3 a3 _ a4 (itoa_val a2 (by omega)) (List.all_eq_true.2 fun c hc => idByte_val c (List.all_eq_true.1 hall c hc)), Bool.and_true]
end Go.Proofs.YtljkopbalejcgaaGreatDoor.P
end
section
namespace Go.Proofs.YtljkopbalejcgaaGreatDoor.P
open Go.RowKit Go.Proofs.YtljkopbalejcgaaGreatDoorW.PrintWords Go.Proofs.YtljkopbalejcgaaGreatDoorW.PrintLast Go.Proofs.YtljkopbalejcgaaGreatDoorW.PrintMore
attribute [local go_sem] max2_int min2_int max_two min_two max_three min_three max_four min_four
set_option linter.unusedVariables false
set_option linter.unusedSimpArgs false
mutual
def mailroomref02_Show.j0 : Nat → Int → Int → Option (ByteArray)
 | 0, _, _ => none
 | k + 1, x0, x3 => mailroomref02_Show.l0 k x0 x3 (strOfNums (([(IntKind.u64.wrap (48 + (Int.tmod x3 10))) % 256] : List Int)))
def mailroomref02_Show.l0 : Nat → Int → Int → ByteArray → Option (ByteArray)
 | 0, _, _, _ => none
 | k + 1, x0, x3, x4 => if x3 > 9 then ((some (([(IntKind.u64.wrap (48 + (Int.tmod (IntKind.u64.wrap (Int.tdiv x3 10)) 10))) % 256] : List Int) : List Int)).bind fun y235 => (if (strOfNums y235).size + x4.size ≤ 9223372036854775807 then (mailroomref02_Show.l0 k x0 (IntKind.u64.wrap (Int.tdiv x3 10)) ((strOfNums y235) ++ x4)) else (none))) else (if x0 < 0 then (if 1 + x4.size ≤ 9223372036854775807 then (some ((⟨#[45]⟩ : ByteArray) ++ x4)) else (none)) else (some x4))
end
def mailroomref02_Show.f (k : Nat) (a0 : Int) : Option (ByteArray) := if a0 < 0 then (mailroomref02_Show.j0 k a0 (IntKind.u64.wrap (-(IntKind.u64.wrap (a0))))) else (mailroomref02_Show.j0 k a0 (IntKind.u64.wrap (a0)))
theorem mailroomref02_Show.mono_l : ∀ k, (∀ y0 y1, LeO (mailroomref02_Show.j0 k y0 y1) (mailroomref02_Show.j0 (k + 1) y0 y1)) ∧ (∀ y0 y1 y2, LeO (mailroomref02_Show.l0 k y0 y1 y2) (mailroomref02_Show.l0 (k + 1) y0 y1 y2))
 | 0 => ⟨fun _ _ r h => by simp [mailroomref02_Show.j0] at h, fun _ _ _ r h => by simp [mailroomref02_Show.l0] at h⟩
 | k + 1 => by
  obtain ⟨ih0, ih1⟩ := mailroomref02_Show.mono_l k
  refine ⟨?_, ?_⟩
  ·intro y0 y1
   unfold mailroomref02_Show.j0
   repeat' first
   | (with_reducible exact ih0 _ _)
   | (with_reducible exact ih1 _ _ _)
   | (with_reducible exact LeO.refl _)
   | (with_reducible exact LeO.none _)
   | (with_reducible refine LeO.ite ?_ ?_)
   | (with_reducible refine LeO.bind ?_ (fun _ => ?_))
   | exact ih0 _ _
   | exact ih1 _ _ _
   | exact LeO.none _
   | refine LeO.ite ?_ ?_
   | refine LeO.bind ?_ (fun _ => ?_)
  ·intro y0 y1 y2
   unfold mailroomref02_Show.l0
   repeat' first
   | (with_reducible exact ih0 _ _)
   | (with_reducible exact ih1 _ _ _)
   | (with_reducible exact LeO.refl _)
   | (with_reducible exact LeO.none _)
   | (with_reducible refine LeO.ite ?_ ?_)
   | (with_reducible refine LeO.bind ?_ (fun _ => ?_))
   | exact ih0 _ _
   | exact ih1 _ _ _
   | exact LeO.none _
   | refine LeO.ite ?_ ?_
   | refine LeO.bind ?_ (fun _ => ?_)
theorem mailroomref02_Show.mono : ∀ a0 k, LeO (mailroomref02_Show.f k a0) (mailroomref02_Show.f (k + 1) a0) := by
 intro a0 k
 obtain ⟨ih0, ih1⟩ := mailroomref02_Show.mono_l k
 unfold mailroomref02_Show.f
 repeat' first
   | (with_reducible exact ih0 _ _)
   | (with_reducible exact ih1 _ _ _)
   | (with_reducible exact LeO.refl _)
   | (with_reducible exact LeO.none _)
   | (with_reducible refine LeO.ite ?_ ?_)
   | (with_reducible refine LeO.bind ?_ (fun _ => ?_))
   | exact ih0 _ _
   | exact ih1 _ _ _
   | exact LeO.none _
   | refine LeO.ite ?_ ?_
   | refine LeO.bind ?_ (fun _ => ?_)
set_option maxHeartbeats 8000000 in
set_option maxRecDepth 100000 in
theorem mailroomref02_Show.calls (k : Nat) (a0 : Int) (r : ByteArray) (w : World) (h : mailroomref02_Show.f k a0 = some r) :
  Calls Tryz.prog 31 #[.int .i64 a0] w fun e w' => e = .returned (.string r) ∧ Below w.heap.size w w' := by
 have HB := Aside0.mk (Below.refl w.heap.size w)
 have H : (if a0 < 0 then (mailroomref02_Show.j0 k a0 (IntKind.u64.wrap (-(IntKind.u64.wrap (a0))))) else (mailroomref02_Show.j0 k a0 (IntKind.u64.wrap (a0)))) = some r := h
 clear h
 have HC2 := Aside0.mk H
 clear H
 go_enter Tryz.func31, Tryz.ntmps31
 go_upto_if 8 with (fail)
 go_cut [3] (fun v3 wc => ∃ (kq : Nat) (x3_1 : Int), v3 = .int .u64 x3_1 ∧ Aside0 (mailroomref02_Show.j0 kq a0 x3_1 = some r) ∧ Aside0 (kq ≤ k) ∧ Aside0 (Below w.heap.size w wc))
 case first =>
  have H := HC2.out
  clear HC2
  by_cases c3 : a0 < 0
  ·rw [if_pos c3] at H
   have c3b0 : decide (a0 < 0) = true := decide_eq_true c3
   clear c3
   (first | rw [c3b0] | (simp only [i64_w, i32_w]; rw [c3b0]) | skip)
   have H' := Aside0.mk H
   clear H
   go_wp2
   go_meet
   case rel => exact ⟨_, (IntKind.u64.wrap (-(IntKind.u64.wrap (a0)))), (by first | rfl | (simp; done) | (simp [*]; done)), H', ⟨by first | omega | exact Nat.le_refl _⟩, ⟨by repeat (first | (with_reducible first | exact HB.out | apply below_alloc | apply pw_below_drewN | apply below_drew1) | exact HB.out)⟩⟩
  ·rw [if_neg c3] at H
   have c3b0 : decide (a0 < 0) = false := decide_eq_false c3
   clear c3
   (first | rw [c3b0] | (simp only [i64_w, i32_w]; rw [c3b0]) | skip)
   have H' := Aside0.mk H
   clear H
   go_wp2
   go_meet
   case rel => exact ⟨_, (IntKind.u64.wrap (a0)), (by first | rfl | (simp; done) | (simp [*]; done)), H', ⟨by first | omega | exact Nat.le_refl _⟩, ⟨by repeat (first | (with_reducible first | exact HB.out | apply below_alloc | apply pw_below_drewN | apply below_drew1) | exact HB.out)⟩⟩
 case rest =>
  clear HC2
  try clear p2
  try clear c3
  try clear c3b0
  obtain ⟨kq, x3_1, rfl, HA, HJ1, HB⟩ := hcut
  cases kq with
  | zero => exact absurd HA.out (by simp [mailroomref02_Show.j0])
  | succ kj1 =>
   have H := HA.out
   clear HA
   simp only [mailroomref02_Show.j0] at H
   obtain ⟨y232, hy232⟩ : ∃ y_ : List Int, y_ = (([(IntKind.u64.wrap (48 + (Int.tmod x3_1 10))) % 256] : List Int)) := ⟨_, rfl⟩
   replace H : (mailroomref02_Show.l0 kj1 a0 x3_1 (strOfNums y232)) = some r := by first | (rw [hy232]; with_reducible exact H) | (have H2_ := (Option.bind_some _ _).symm.trans H; rw [hy232]; with_reducible exact H2_) | (have H2_ := (Option.bind_some _ _).symm.trans H; with_reducible exact H2_) | with_reducible exact H | (rw [hy232]; exact H) | exact H
   have Ny232 := Aside0.mk hy232
   clear hy232
   have H' := Aside0.mk H
   clear H
   go_wp2_with (first | ((with_reducible refine gate_dst (N := 15) rfl ?_); refine Kd.R_lit (Kd.int .u8) _ 5 ?hg (N := 15) ?hd (xs := ([(IntKind.u64.wrap (48 + (Int.tmod x3_1 10))) % 256] : List Int)) (inner := [.int .u8 ((IntKind.u64.wrap (48 + (Int.tmod x3_1 10))) % 256)]) (ok := fun _ => True) (okp := fun _ => True) ?hr ?hp (fun _ hk => hk) trivial (Below.refl _ _) (Nat.le_refl _) (by simp) ?_; (case hd => rfl); (case hg => rfl); (case hr => first | (go_simp; done) | (go_simp; rfl)); (case hp => exact (Reps.one (show Kd.M (Kd.int .u8) _ _ _ ((IntKind.u64.wrap (48 + (Int.tmod x3_1 10))) % 256) [.int .u8 ((IntKind.u64.wrap (48 + (Int.tmod x3_1 10))) % 256)] from rfl) (Reps.none _ _))); intro v233 w4 ho5 hb hg_ hnew_; clear hg_ hnew_; (first | rw [← Ny232.out] at ho5 | (simp only [Int.reduceToNat] at ho5; rw [← Ny232.out] at ho5)); have n0_ := Aside0.mk (Kd.R_lower ho5 (below_size (by repeat (first | (with_reducible first | exact HB.out | apply below_alloc | apply pw_below_drewN | apply below_drew1) | exact HB.out)))); have n1_ := Aside0.mk (below_step (by repeat (first | (with_reducible first | exact HB.out | apply below_alloc | apply pw_below_drewN | apply below_drew1) | exact HB.out)) hb); clear HB; have HO234 := n0_; have HB := n1_; clear n0_ n1_; clear hb ho5; have hcv6 := own_string (P := Tryz.prog) Tryz.underlying64 Tryz.underlying5 Tryz.underlying9 (Kd.own_of_R HO234.out)))
   go_loopg [3, 4] kj1 (fun kq v3 v4 w' => ∃ (x3_2 : Int) (x4_2 : ByteArray), v3 = .int .u64 x3_2 ∧ v4 = .string x4_2 ∧ Aside0 (mailroomref02_Show.l0 kq a0 x3_2 x4_2 = some r) ∧ Aside0 (kq ≤ kj1) ∧ Aside0 (Below w.heap.size w w'))
   case atStart => exact ⟨(x3_1), (strOfNums y232), (by first | rfl | (simp; done) | (simp [*]; done)), (by first | rfl | (simp; done) | (simp [*]; done)), H', ⟨Nat.le_refl _⟩, ⟨by repeat (first | (with_reducible first | exact HB.out | apply below_alloc | apply pw_below_drewN | apply below_drew1) | exact HB.out)⟩⟩
   case round =>
    clear H'
    try clear p2
    try clear c3
    try clear c3b0
    try clear hcv6
    try clear p2
    obtain ⟨x3_2, x4_2, rfl, rfl, HA, HK2, HB⟩ := hrel
    cases gk with
    | zero => exact absurd HA.out (by simp [mailroomref02_Show.l0])
    | succ k2 =>
     have H := HA.out
     clear HA
     simp only [mailroomref02_Show.l0] at H
     by_cases c7 : x3_2 > 9
     ·rw [if_pos c7] at H
      have c7b0 : decide (9 < x3_2) = true := decide_eq_true c7
      clear c7
      obtain ⟨y235, hy235⟩ : ∃ y_ : List Int, y_ = (([(IntKind.u64.wrap (48 + (Int.tmod (IntKind.u64.wrap (Int.tdiv x3_2 10)) 10))) % 256] : List Int)) := ⟨_, rfl⟩
      replace H : (if (strOfNums y235).size + x4_2.size ≤ 9223372036854775807 then (mailroomref02_Show.l0 k2 a0 (IntKind.u64.wrap (Int.tdiv x3_2 10)) ((strOfNums y235) ++ x4_2)) else (none)) = some r := by first | (rw [hy235]; with_reducible exact H) | (have H2_ := (Option.bind_some _ _).symm.trans H; rw [hy235]; with_reducible exact H2_) | (have H2_ := (Option.bind_some _ _).symm.trans H; with_reducible exact H2_) | with_reducible exact H | (rw [hy235]; exact H) | exact H
      have Ny235 := Aside0.mk hy235
      clear hy235
      by_cases c8 : (strOfNums y235).size + x4_2.size ≤ 9223372036854775807
      ·rw [if_pos c8] at H
       have c8b0 := eq_true c8
       have c8b1 : decide ((strOfNums y235).size + x4_2.size ≤ 9223372036854775807) = true := decide_eq_true c8
       try have c8b2 : (9223372036854775807 < (strOfNums y235).size + x4_2.size) = False := eq_false (Nat.not_lt.2 c8)
       have H' := Aside0.mk H
       clear H
       go_wp2_with (first | ((with_reducible refine gate_dst (N := 25) rfl ?_); refine Kd.R_lit (Kd.int .u8) _ 5 ?hg (N := 25) ?hd (xs := ([(IntKind.u64.wrap (48 + (Int.tmod (IntKind.u64.wrap (Int.tdiv x3_2 10)) 10))) % 256] : List Int)) (inner := [.int .u8 ((IntKind.u64.wrap (48 + (Int.tmod (IntKind.u64.wrap (Int.tdiv x3_2 10)) 10))) % 256)]) (ok := fun _ => True) (okp := fun _ => True) ?hr ?hp (fun _ hk => hk) trivial (Below.refl _ _) (Nat.le_refl _) (by simp) ?_; (case hd => rfl); (case hg => rfl); (case hr => first | (go_simp; done) | (go_simp; rfl)); (case hp => exact (Reps.one (show Kd.M (Kd.int .u8) _ _ _ ((IntKind.u64.wrap (48 + (Int.tmod (IntKind.u64.wrap (Int.tdiv x3_2 10)) 10))) % 256) [.int .u8 ((IntKind.u64.wrap (48 + (Int.tmod (IntKind.u64.wrap (Int.tdiv x3_2 10)) 10))) % 256)] from rfl) (Reps.none _ _))); intro v236 w9 ho10 hb hg_ hnew_; clear hg_ hnew_; (first | rw [← Ny235.out] at ho10 | (simp only [Int.reduceToNat] at ho10; rw [← Ny235.out] at ho10)); have n0_ := Aside0.mk (Kd.R_lower ho10 (below_size (by repeat (first | (with_reducible first | exact HB.out | apply below_alloc | apply pw_below_drewN | apply below_drew1) | exact HB.out)))); have n1_ := Aside0.mk (below_step (by repeat (first | (with_reducible first | exact HB.out | apply below_alloc | apply pw_below_drewN | apply below_drew1) | exact HB.out)) hb); clear HB; have HO237 := n0_; have HB := n1_; clear n0_ n1_; clear hb ho10; have hcv11 := own_string (P := Tryz.prog) Tryz.underlying64 Tryz.underlying5 Tryz.underlying9 (Kd.own_of_R HO237.out)))
       go_roundg k2
       case measure => have := HJ1.out; have := HK2.out; omega
       case rel => exact ⟨(IntKind.u64.wrap (Int.tdiv x3_2 10)), ((strOfNums y235) ++ x4_2), (by first | rfl | (simp; done) | (simp [*]; done)), (by first | rfl | (simp; done) | (simp [*]; done)), H', ⟨by have := HJ1.out; have := HK2.out; omega⟩, ⟨by repeat (first | (with_reducible first | exact HB.out | apply below_alloc | apply pw_below_drewN | apply below_drew1) | exact HB.out)⟩⟩
      ·rw [if_neg c8] at H
       exact absurd H (by simp)
     ·rw [if_neg c7] at H
      have c7b0 : decide (9 < x3_2) = false := decide_eq_false c7
      clear c7
      by_cases c12 : a0 < 0
      ·rw [if_pos c12] at H
       have c12b0 : decide (a0 < 0) = true := decide_eq_true c12
       clear c12
       by_cases c13 : 1 + x4_2.size ≤ 9223372036854775807
       ·rw [if_pos c13] at H
        have c13b0 := eq_true c13
        have c13b1 : decide (1 + x4_2.size ≤ 9223372036854775807) = true := decide_eq_true c13
        try have c13b2 : (9223372036854775807 < 1 + x4_2.size) = False := eq_false (Nat.not_lt.2 c13)
        obtain rfl := Option.some.inj H
        go_wp2
        go_ret
        exact ⟨by first | rfl | (simp [errW_none, errW_some] <;> rfl) | (simp [*, errW_none, errW_some] <;> rfl), by repeat (first | (with_reducible first | exact HB.out | apply below_alloc | apply pw_below_drewN | apply below_drew1) | exact HB.out)⟩
       ·rw [if_neg c13] at H
        exact absurd H (by simp)
      ·rw [if_neg c12] at H
       have c12b0 : decide (a0 < 0) = false := decide_eq_false c12
       clear c12
       obtain rfl := Option.some.inj H
       go_wp2
       go_ret
       exact ⟨by first | rfl | (simp [errW_none, errW_some] <;> rfl) | (simp [*, errW_none, errW_some] <;> rfl), by repeat (first | (with_reducible first | exact HB.out | apply below_alloc | apply pw_below_drewN | apply below_drew1) | exact HB.out)⟩
end Go.Proofs.YtljkopbalejcgaaGreatDoor.P
end
section
namespace Go.Proofs.YtljkopbalejcgaaGreatDoor.P
open Go.RowKit Go.Proofs.YtljkopbalejcgaaGreatDoorW.PrintWords Go.Proofs.YtljkopbalejcgaaGreatDoorW.PrintLast Go.Proofs.YtljkopbalejcgaaGreatDoorW.PrintMore
attribute [local go_sem] max2_int min2_int max_two min_two max_three min_three max_four min_four
set_option linter.unusedVariables false
set_option linter.unusedSimpArgs false
mutual
def mailroomref07_Mail.j0 : Nat → Int → Bool → ByteArray → Bool → Bool → Bool → Bool → Bool → Bool → Bool → Int → Int → ByteArray → Option (Int × ByteArray × (List (S67)) × Int)
 | 0, _, _, _, _, _, _, _, _, _, _, _, _, _ => none
 | k + 1, x2, x3, x4, x26, x239000, x239001, x239002, x239003, x239004, x239005, x239006, x241000, x241001 => if x26 = true then (some (0, (⟨#[]⟩ : ByteArray), ([] : List (S67)), 4)) else (if x239005 = true then ((mailroomref02_Show.f k x2).bind fun t243 => (if ([] : List (S67)).length < 4398046511104 then (mailroomref07_Mail.j1 k x3 x4 x239000 x239001 x239002 x239003 x239004 x239005 x239006 x241000 x241001 (([] : List (S67)) ++ [(⟨(⟨#[83, 73, 90, 69]⟩ : ByteArray), t243⟩ : S67)])) else (none))) else (mailroomref07_Mail.j1 k x3 x4 x239000 x239001 x239002 x239003 x239004 x239005 x239006 x241000 x241001 ([] : List (S67))))
def mailroomref07_Mail.j1 : Nat → Bool → ByteArray → Bool → Bool → Bool → Bool → Bool → Bool → Int → Int → ByteArray → List (S67) → Option (Int × ByteArray × (List (S67)) × Int)
 | 0, _, _, _, _, _, _, _, _, _, _, _, _ => none
 | k + 1, x3, x4, x239000, x239001, x239002, x239003, x239004, x239005, x239006, x241000, x241001, x241002 => if x239002 = true then (mailroomref07_Mail.j2 k x4 x3 x239000 x239001 x239002 x239003 x239004 x239005 x239006 x241000 x241001 x241002) else (mailroomref07_Mail.j2 k x4 false x239000 x239001 x239002 x239003 x239004 x239005 x239006 x241000 x241001 x241002)
def mailroomref07_Mail.j2 : Nat → ByteArray → Bool → Bool → Bool → Bool → Bool → Bool → Bool → Int → Int → ByteArray → List (S67) → Option (Int × ByteArray × (List (S67)) × Int)
 | 0, _, _, _, _, _, _, _, _, _, _, _, _ => none
 | k + 1, x4, x42, x239000, x239001, x239002, x239003, x239004, x239005, x239006, x241000, x241001, x241002 => if x42 = true then (if x241002.length < 4398046511104 then ((some (x241002 ++ [(⟨(⟨#[82, 69, 81, 85, 73, 82, 69, 84, 76, 83]⟩ : ByteArray), (⟨#[]⟩ : ByteArray)⟩ : S67)] : List (S67))).bind fun y247 => (if x239003 = true then (if x4.toList = ([] : List UInt8) then (some (x241000, x241001, y247, 0)) else (if y247.length < 4398046511104 then (some (x241000, x241001, (y247 ++ [(⟨(⟨#[69, 78, 86, 73, 68]⟩ : ByteArray), x4⟩ : S67)]), 0)) else (none))) else (some (x241000, x241001, y247, 0)))) else (none)) else (if x239003 = true then (if x4.toList = ([] : List UInt8) then (some (x241000, x241001, x241002, 0)) else (if x241002.length < 4398046511104 then (some (x241000, x241001, (x241002 ++ [(⟨(⟨#[69, 78, 86, 73, 68]⟩ : ByteArray), x4⟩ : S67)]), 0)) else (none))) else (some (x241000, x241001, x241002, 0)))
end
def mailroomref07_Mail.f (k : Nat) (a0 : ByteArray) (a1_0 : Bool) (a1_1 : Bool) (a1_2 : Bool) (a1_3 : Bool) (a1_4 : Bool) (a1_5 : Bool) (a1_6 : Int) (a2 : Int) (a3 : Bool) (a4 : ByteArray) : Option (Int × ByteArray × (List (S67)) × Int) := if a2 < 0 then (mailroomref07_Mail.j0 k a2 a3 a4 true a1_0 a1_1 a1_2 a1_3 a1_4 a1_5 a1_6 3 a0) else ((mailroomref07_envid.f k a4).bind fun t241 => (if t241 = true then ((mailroomref07_May.f k 3 a0 ([] : List (S67))).bind fun t242 => (mailroomref07_Mail.j0 k a2 a3 a4 (!t242) a1_0 a1_1 a1_2 a1_3 a1_4 a1_5 a1_6 3 a0)) else (mailroomref07_Mail.j0 k a2 a3 a4 true a1_0 a1_1 a1_2 a1_3 a1_4 a1_5 a1_6 3 a0)))
theorem mailroomref07_Mail.mono_l : ∀ k, (∀ y0 y1 y2 y3 y4 y5 y6 y7 y8 y9 y10 y11 y12, LeO (mailroomref07_Mail.j0 k y0 y1 y2 y3 y4 y5 y6 y7 y8 y9 y10 y11 y12) (mailroomref07_Mail.j0 (k + 1) y0 y1 y2 y3 y4 y5 y6 y7 y8 y9 y10 y11 y12)) ∧ (∀ y0 y1 y2 y3 y4 y5 y6 y7 y8 y9 y10 y11, LeO (mailroomref07_Mail.j1 k y0 y1 y2 y3 y4 y5 y6 y7 y8 y9 y10 y11) (mailroomref07_Mail.j1 (k + 1) y0 y1 y2 y3 y4 y5 y6 y7 y8 y9 y10 y11)) ∧ (∀ y0 y1 y2 y3 y4 y5 y6 y7 y8 y9 y10 y11, LeO (mailroomref07_Mail.j2 k y0 y1 y2 y3 y4 y5 y6 y7 y8 y9 y10 y11) (mailroomref07_Mail.j2 (k + 1) y0 y1 y2 y3 y4 y5 y6 y7 y8 y9 y10 y11))
 | 0 => ⟨fun _ _ _ _ _ _ _ _ _ _ _ _ _ r h => by simp [mailroomref07_Mail.j0] at h, fun _ _ _ _ _ _ _ _ _ _ _ _ r h => by simp [mailroomref07_Mail.j1] at h, fun _ _ _ _ _ _ _ _ _ _ _ _ r h => by simp [mailroomref07_Mail.j2] at h⟩
 | k + 1 => by
  obtain ⟨ih0, ih1, ih2⟩ := mailroomref07_Mail.mono_l k
  refine ⟨?_, ?_, ?_⟩
  ·intro y0 y1 y2 y3 y4 y5 y6 y7 y8 y9 y10 y11 y12
   unfold mailroomref07_Mail.j0
   repeat' first
   | (with_reducible exact ih0 _ _ _ _ _ _ _ _ _ _ _ _ _)
   | (with_reducible exact ih1 _ _ _ _ _ _ _ _ _ _ _ _)
   | (with_reducible exact ih2 _ _ _ _ _ _ _ _ _ _ _ _)
   | (with_reducible exact mailroomref02_Show.mono _ _)
   | (with_reducible exact mailroomref07_May.mono _ _ _ _)
   | (with_reducible exact mailroomref07_envid.mono _ _)
   | (with_reducible exact LeO.refl _)
   | (with_reducible exact LeO.none _)
   | (with_reducible refine LeO.ite ?_ ?_)
   | (with_reducible refine LeO.bind ?_ (fun _ => ?_))
   | exact ih0 _ _ _ _ _ _ _ _ _ _ _ _ _
   | exact ih1 _ _ _ _ _ _ _ _ _ _ _ _
   | exact ih2 _ _ _ _ _ _ _ _ _ _ _ _
   | exact mailroomref02_Show.mono _ _
   | exact mailroomref07_May.mono _ _ _ _
   | exact mailroomref07_envid.mono _ _
   | exact LeO.none _
   | refine LeO.ite ?_ ?_
   | refine LeO.bind ?_ (fun _ => ?_)
  ·intro y0 y1 y2 y3 y4 y5 y6 y7 y8 y9 y10 y11
   unfold mailroomref07_Mail.j1
   repeat' first
   | (with_reducible exact ih0 _ _ _ _ _ _ _ _ _ _ _ _ _)
   | (with_reducible exact ih1 _ _ _ _ _ _ _ _ _ _ _ _)
   | (with_reducible exact ih2 _ _ _ _ _ _ _ _ _ _ _ _)
   | (with_reducible exact mailroomref02_Show.mono _ _)
   | (with_reducible exact mailroomref07_May.mono _ _ _ _)
   | (with_reducible exact mailroomref07_envid.mono _ _)
   | (with_reducible exact LeO.refl _)
   | (with_reducible exact LeO.none _)
   | (with_reducible refine LeO.ite ?_ ?_)
   | (with_reducible refine LeO.bind ?_ (fun _ => ?_))
   | exact ih0 _ _ _ _ _ _ _ _ _ _ _ _ _
   | exact ih1 _ _ _ _ _ _ _ _ _ _ _ _
   | exact ih2 _ _ _ _ _ _ _ _ _ _ _ _
   | exact mailroomref02_Show.mono _ _
   | exact mailroomref07_May.mono _ _ _ _
   | exact mailroomref07_envid.mono _ _
   | exact LeO.none _
   | refine LeO.ite ?_ ?_
   | refine LeO.bind ?_ (fun _ => ?_)
  ·intro y0 y1 y2 y3 y4 y5 y6 y7 y8 y9 y10 y11
   unfold mailroomref07_Mail.j2
   repeat' first
   | (with_reducible exact ih0 _ _ _ _ _ _ _ _ _ _ _ _ _)
   | (with_reducible exact ih1 _ _ _ _ _ _ _ _ _ _ _ _)
   | (with_reducible exact ih2 _ _ _ _ _ _ _ _ _ _ _ _)
   | (with_reducible exact mailroomref02_Show.mono _ _)
   | (with_reducible exact mailroomref07_May.mono _ _ _ _)
   | (with_reducible exact mailroomref07_envid.mono _ _)
   | (with_reducible exact LeO.refl _)
   | (with_reducible exact LeO.none _)
   | (with_reducible refine LeO.ite ?_ ?_)
   | (with_reducible refine LeO.bind ?_ (fun _ => ?_))
   | exact ih0 _ _ _ _ _ _ _ _ _ _ _ _ _
   | exact ih1 _ _ _ _ _ _ _ _ _ _ _ _
   | exact ih2 _ _ _ _ _ _ _ _ _ _ _ _
   | exact mailroomref02_Show.mono _ _
   | exact mailroomref07_May.mono _ _ _ _
   | exact mailroomref07_envid.mono _ _
   | exact LeO.none _
   | refine LeO.ite ?_ ?_
   | refine LeO.bind ?_ (fun _ => ?_)
theorem mailroomref07_Mail.mono : ∀ a0 a1 a2 a3 a4 a5 a6 a7 a8 a9 a10 k, LeO (mailroomref07_Mail.f k a0 a1 a2 a3 a4 a5 a6 a7 a8 a9 a10) (mailroomref07_Mail.f (k + 1) a0 a1 a2 a3 a4 a5 a6 a7 a8 a9 a10) := by
 intro a0 a1 a2 a3 a4 a5 a6 a7 a8 a9 a10 k
 obtain ⟨ih0, ih1, ih2⟩ := mailroomref07_Mail.mono_l k
 unfold mailroomref07_Mail.f
 repeat' first
   | (with_reducible exact ih0 _ _ _ _ _ _ _ _ _ _ _ _ _)
   | (with_reducible exact ih1 _ _ _ _ _ _ _ _ _ _ _ _)
   | (with_reducible exact ih2 _ _ _ _ _ _ _ _ _ _ _ _)
   | (with_reducible exact mailroomref02_Show.mono _ _)
   | (with_reducible exact mailroomref07_May.mono _ _ _ _)
   | (with_reducible exact mailroomref07_envid.mono _ _)
   | (with_reducible exact LeO.refl _)
   | (with_reducible exact LeO.none _)
   | (with_reducible refine LeO.ite ?_ ?_)
   | (with_reducible refine LeO.bind ?_ (fun _ => ?_))
   | exact ih0 _ _ _ _ _ _ _ _ _ _ _ _ _
   | exact ih1 _ _ _ _ _ _ _ _ _ _ _ _
   | exact ih2 _ _ _ _ _ _ _ _ _ _ _ _
   | exact mailroomref02_Show.mono _ _
   | exact mailroomref07_May.mono _ _ _ _
   | exact mailroomref07_envid.mono _ _
   | exact LeO.none _
   | refine LeO.ite ?_ ?_
   | refine LeO.bind ?_ (fun _ => ?_)
def mailroomref07_Mail.T5 : Bool × List (List Nat × List Nat) := (true, [([], []), ([0], [0]), ([], []), ([2], [2]), ([3], [3]), ([4], [4]), ([1, 5, 3], [1, 5]), ([0, 1, 2, 3, 4, 5, 6], []), ([7, 6, 6, 0, 1, 2, 3, 4, 5, 6], [6, 7])])
def mailroomref07_Mail.B5 : List Nat := [0, 1, 0, 4, 12, 28, 63, 127, 255]
theorem mailroomref07_Mail.tab5 : rtab .any (opsOf Tryz.f7 5) = mailroomref07_Mail.T5 := by kernel_rfl
theorem mailroomref07_Mail.bits5 : waitsOk mailroomref07_Mail.T5.2 mailroomref07_Mail.B5 = true := by kernel_rfl
set_option maxHeartbeats 8000000 in
set_option maxRecDepth 100000 in
theorem mailroomref07_Mail.calls (k : Nat) (a0 : ByteArray) (a1_0 : Bool) (a1_1 : Bool) (a1_2 : Bool) (a1_3 : Bool) (a1_4 : Bool) (a1_5 : Bool) (a1_6 : Int) (a2 : Int) (a3 : Bool) (a4 : ByteArray) (r1 : Int) (r2 : ByteArray) (r3 : List (S67)) (r4 : Int) (w : World) (h : mailroomref07_Mail.f k a0 a1_0 a1_1 a1_2 a1_3 a1_4 a1_5 a1_6 a2 a3 a4 = some (r1, r2, r3, r4)) :
  Calls Tryz.prog 7 #[.string a0, .agg #[.bool a1_0, .bool a1_1, .bool a1_2, .bool a1_3, .bool a1_4, .bool a1_5, .int .i64 a1_6], .int .i64 a2, .bool a3, .string a4] w fun e w' => ∃ v2_ : Value, e = .returned (.tuple #[.agg #[.int .u8 r1, .string r2, v2_], .int .i64 r4]) ∧ Kd.R k67 67 w' w.heap.size (fun _ => True) v2_ r3 ∧ Below w.heap.size w w' := by
 have hu36 := Tryz.underlying36
 have hu33 := Tryz.underlying33
 have hu67 := Tryz.underlying67
 have HB := Aside0.mk (Below.refl w.heap.size w)
 have H : (if a2 < 0 then (mailroomref07_Mail.j0 k a2 a3 a4 true a1_0 a1_1 a1_2 a1_3 a1_4 a1_5 a1_6 3 a0) else ((mailroomref07_envid.f k a4).bind fun t241 => (if t241 = true then ((mailroomref07_May.f k 3 a0 ([] : List (S67))).bind fun t242 => (mailroomref07_Mail.j0 k a2 a3 a4 (!t242) a1_0 a1_1 a1_2 a1_3 a1_4 a1_5 a1_6 3 a0)) else (mailroomref07_Mail.j0 k a2 a3 a4 true a1_0 a1_1 a1_2 a1_3 a1_4 a1_5 a1_6 3 a0)))) = some (r1, r2, r3, r4) := h
 clear h
 have HC6 := Aside0.mk H
 clear H
 go_enter Tryz.func7, Tryz.ntmps7
 go_upto_region 2 with (first | ((with_reducible refine gate_dst (N := 6) rfl ?_); refine box_event ?hg (N := 6) ?hd (cs := #[.bool a1_0, .bool a1_1, .bool a1_2, .bool a1_3, .bool a1_4, .bool a1_5, .int .i64 a1_6]) (t := 36) ?hr ?_; (case hd => rfl); (case hg => rfl); (case hr => first | (go_simp; done) | (go_simp; rfl)); intro gb238 hg w7 hbox hb; have n0_ := Aside0.mk (below_step (by repeat (first | (with_reducible first | exact HB.out | apply below_alloc | apply pw_below_drewN | apply below_drew1) | exact HB.out)) hb); have n1_ := Aside0.mk (hbox); have n2_ := Aside0.mk ((by rw [hg]; exact (below_size (by repeat (first | (with_reducible first | exact HB.out | apply below_alloc | apply pw_below_drewN | apply below_drew1) | exact HB.out))) : w.heap.size ≤ gb238)); have n3_ := Aside0.mk ((by rw [hg]; exact (below_size (by repeat (first | (with_reducible first | exact HB.out | apply below_alloc | apply pw_below_drewN | apply below_drew1) | exact HB.out))) : w.heap.size ≤ gb238)); clear HB; have HB := n0_; have BK238 := n1_; have GW238 := n2_; have GE238 := n3_; clear n0_ n1_ n2_ n3_; clear hb hbox hg) | ((with_reducible refine gate_dst (N := 10) rfl ?_); refine box_event ?hg (N := 10) ?hd (cs := #[.int .u8 0, .string (⟨#[]⟩ : ByteArray), .slice none 0 0]) (t := 33) ?hr ?_; (case hd => rfl); (case hg => rfl); (case hr => first | (go_simp; done) | (go_simp; rfl)); intro gb239 hg w8 hbox hb; have n0_ := Aside0.mk (blk_below (g := gb238) (o := .cells #[.bool a1_0, .bool a1_1, .bool a1_2, .bool a1_3, .bool a1_4, .bool a1_5, .int .i64 a1_6] 36 (0, 0)) (by (with_reducible repeat (first | refine blk_drewN ?_ _ | refine blk_drew ?_ | refine blk_alloc ?_ _)); exact BK238.out) hb); have n1_ := Aside0.mk (below_step (by repeat (first | (with_reducible first | exact HB.out | apply below_alloc | apply pw_below_drewN | apply below_drew1 | refine below_set ?_ GE238.out) | exact HB.out)) hb); have n2_ := Aside0.mk (hbox); have n3_ := Aside0.mk ((by rw [hg]; exact (below_size (by repeat (first | (with_reducible first | exact HB.out | apply below_alloc | apply pw_below_drewN | apply below_drew1 | refine below_set ?_ GE238.out) | exact HB.out))) : w.heap.size ≤ gb239)); have n4_ := Aside0.mk ((by rw [hg]; exact (below_size (by repeat (first | (with_reducible first | exact HB.out | apply below_alloc | apply pw_below_drewN | apply below_drew1 | refine below_set ?_ GE238.out) | exact HB.out))) : w.heap.size ≤ gb239)); have n5_ := Aside0.mk ((by rw [hg]; exact Nat.ne_of_lt (blk_lt (g := gb238) (o := .cells #[.bool a1_0, .bool a1_1, .bool a1_2, .bool a1_3, .bool a1_4, .bool a1_5, .int .i64 a1_6] 36 (0, 0)) (by (with_reducible repeat (first | refine blk_drewN ?_ _ | refine blk_drew ?_ | refine blk_alloc ?_ _)); exact BK238.out)) : gb238 ≠ gb239)); have n6_ := Aside0.mk ((by rw [hg]; exact Nat.ne_of_gt (blk_lt (g := gb238) (o := .cells #[.bool a1_0, .bool a1_1, .bool a1_2, .bool a1_3, .bool a1_4, .bool a1_5, .int .i64 a1_6] 36 (0, 0)) (by (with_reducible repeat (first | refine blk_drewN ?_ _ | refine blk_drew ?_ | refine blk_alloc ?_ _)); exact BK238.out)) : gb239 ≠ gb238)); clear BK238; clear HB; have BK238 := n0_; have HB := n1_; have BK239 := n2_; have GW239 := n3_; have GE239 := n4_; have NB238_239 := n5_; have NB239_238 := n6_; clear n0_ n1_ n2_ n3_ n4_ n5_ n6_; clear hb hbox hg) | ((with_reducible refine gate_dst (N := 12) rfl ?_); refine box_event ?hg (N := 12) ?hd (cs := #[.int .u8 0, .string (⟨#[]⟩ : ByteArray), .slice none 0 0]) (t := 33) ?hr ?_; (case hd => rfl); (case hg => rfl); (case hr => first | (go_simp; done) | (go_simp; rfl)); intro gb240 hg w9 hbox hb; have n0_ := Aside0.mk (blk_below (g := gb238) (o := .cells #[.bool a1_0, .bool a1_1, .bool a1_2, .bool a1_3, .bool a1_4, .bool a1_5, .int .i64 a1_6] 36 (0, 0)) (by (with_reducible repeat (first | refine blk_drewN ?_ _ | refine blk_drew ?_ | refine blk_alloc ?_ _)); exact BK238.out) hb); have n1_ := Aside0.mk (blk_below (g := gb239) (o := .cells #[.int .u8 0, .string (⟨#[]⟩ : ByteArray), .slice none 0 0] 33 (0, 0)) (by (with_reducible repeat (first | refine blk_drewN ?_ _ | refine blk_drew ?_ | refine blk_alloc ?_ _)); exact BK239.out) hb); have n2_ := Aside0.mk (below_step (by repeat (first | (with_reducible first | exact HB.out | apply below_alloc | apply pw_below_drewN | apply below_drew1 | refine below_set ?_ GE238.out | refine below_set ?_ GE239.out) | exact HB.out)) hb); have n3_ := Aside0.mk (hbox); have n4_ := Aside0.mk ((by rw [hg]; exact (below_size (by repeat (first | (with_reducible first | exact HB.out | apply below_alloc | apply pw_below_drewN | apply below_drew1 | refine below_set ?_ GE238.out | refine below_set ?_ GE239.out) | exact HB.out))) : w.heap.size ≤ gb240)); have n5_ := Aside0.mk ((by rw [hg]; exact (below_size (by repeat (first | (with_reducible first | exact HB.out | apply below_alloc | apply pw_below_drewN | apply below_drew1 | refine below_set ?_ GE238.out | refine below_set ?_ GE239.out) | exact HB.out))) : w.heap.size ≤ gb240)); have n6_ := Aside0.mk ((by rw [hg]; exact Nat.ne_of_lt (blk_lt (g := gb238) (o := .cells #[.bool a1_0, .bool a1_1, .bool a1_2, .bool a1_3, .bool a1_4, .bool a1_5, .int .i64 a1_6] 36 (0, 0)) (by (with_reducible repeat (first | refine blk_drewN ?_ _ | refine blk_drew ?_ | refine blk_alloc ?_ _)); exact BK238.out)) : gb238 ≠ gb240)); have n7_ := Aside0.mk ((by rw [hg]; exact Nat.ne_of_gt (blk_lt (g := gb238) (o := .cells #[.bool a1_0, .bool a1_1, .bool a1_2, .bool a1_3, .bool a1_4, .bool a1_5, .int .i64 a1_6] 36 (0, 0)) (by (with_reducible repeat (first | refine blk_drewN ?_ _ | refine blk_drew ?_ | refine blk_alloc ?_ _)); exact BK238.out)) : gb240 ≠ gb238)); have n8_ := Aside0.mk ((by rw [hg]; exact Nat.ne_of_lt (blk_lt (g := gb239) (o := .cells #[.int .u8 0, .string (⟨#[]⟩ : ByteArray), .slice none 0 0] 33 (0, 0)) (by (with_reducible repeat (first | refine blk_drewN ?_ _ | refine blk_drew ?_ | refine blk_alloc ?_ _)); exact BK239.out)) : gb239 ≠ gb240)); have n9_ := Aside0.mk ((by rw [hg]; exact Nat.ne_of_gt (blk_lt (g := gb239) (o := .cells #[.int .u8 0, .string (⟨#[]⟩ : ByteArray), .slice none 0 0] 33 (0, 0)) (by (with_reducible repeat (first | refine blk_drewN ?_ _ | refine blk_drew ?_ | refine blk_alloc ?_ _)); exact BK239.out)) : gb240 ≠ gb239)); clear BK238; clear BK239; clear HB; have BK238 := n0_; have BK239 := n1_; have HB := n2_; have BK240 := n3_; have GW240 := n4_; have GE240 := n5_; have NB238_240 := n6_; have NB240_238 := n7_; have NB239_240 := n8_; have NB240_239 := n9_; clear n0_ n1_ n2_ n3_ n4_ n5_ n6_ n7_ n8_ n9_; clear hb hbox hg; have hnb10 := NB240_238.out; have hnc10 := NB238_240.out; have hnb11 := NB240_239.out; have hnc11 := NB239_240.out; have hcz12_0 : w9.cell? ⟨gb240, 0, none⟩ = some (.int .u8 0) := (blk_cell BK240.out 0).trans rfl; have hcz12_1 : w9.cell? ⟨gb240, 1, none⟩ = some (.string (⟨#[]⟩ : ByteArray)) := (blk_cell BK240.out 1).trans rfl; have hcz12_2 : w9.cell? ⟨gb240, 2, none⟩ = some (.slice none 0 0) := (blk_cell BK240.out 2).trans rfl; have hfz12_0 := blk_frozen BK240.out 0; have hfz12_1 := blk_frozen BK240.out 1; have hfz12_2 := blk_frozen BK240.out 2))
 (try simp only [Act.put, List.setIfInBounds_toArray, List.set_cons_zero, List.set_cons_succ])
 go_cut [26] (fun v26 wc => ∃ (kq : Nat) (x26_5 : Bool), v26 = .bool x26_5 ∧ Aside0 (mailroomref07_Mail.j0 kq a2 a3 a4 x26_5 a1_0 a1_1 a1_2 a1_3 a1_4 a1_5 a1_6 3 a0 = some (r1, r2, r3, r4)) ∧ Aside0 (kq ≤ k) ∧ Aside0 (wc.heap[gb238]? = some (.cells #[.bool a1_0, .bool a1_1, .bool a1_2, .bool a1_3, .bool a1_4, .bool a1_5, .int .i64 a1_6] 36 (0, 0))) ∧ Aside0 (wc.heap[gb239]? = some (.cells #[.int .u8 0, .string (⟨#[]⟩ : ByteArray), (.slice none 0 0)] 33 (0, 0))) ∧ Aside0 (wc.heap[gb240]? = some (.cells #[.int .u8 3, .string a0, (.slice none 0 0)] 33 (0, 0))) ∧ Aside0 (Below w.heap.size w wc))
 case first =>
  have H := HC6.out
  clear HC6
  by_cases c13 : a2 < 0
  ·rw [if_pos c13] at H
   have c13b0 : decide (a2 < 0) = true := decide_eq_true c13
   clear c13
   (first | rw [c13b0] | (simp only [i64_w, i32_w]; rw [c13b0]) | skip)
   have H' := Aside0.mk H
   clear H
   go_wp2
   go_meet
   case rel => exact ⟨_, (true), (by first | rfl | (simp; done) | (simp [*]; done)), H', ⟨by first | omega | exact Nat.le_refl _⟩, ⟨by (with_reducible repeat (first | refine blk_drewN ?_ _ | refine blk_drew ?_ | refine blk_alloc ?_ _)); refine blk_far ?_ NB238_240.out _; (with_reducible repeat (first | refine blk_drewN ?_ _ | refine blk_drew ?_ | refine blk_alloc ?_ _)); refine blk_far ?_ NB238_240.out _; (with_reducible repeat (first | refine blk_drewN ?_ _ | refine blk_drew ?_ | refine blk_alloc ?_ _)); refine blk_far ?_ NB238_240.out _; (with_reducible repeat (first | refine blk_drewN ?_ _ | refine blk_drew ?_ | refine blk_alloc ?_ _)); exact BK238.out⟩, ⟨by (with_reducible repeat (first | refine blk_drewN ?_ _ | refine blk_drew ?_ | refine blk_alloc ?_ _)); refine blk_far ?_ NB239_240.out _; (with_reducible repeat (first | refine blk_drewN ?_ _ | refine blk_drew ?_ | refine blk_alloc ?_ _)); refine blk_far ?_ NB239_240.out _; (with_reducible repeat (first | refine blk_drewN ?_ _ | refine blk_drew ?_ | refine blk_alloc ?_ _)); refine blk_far ?_ NB239_240.out _; (with_reducible repeat (first | refine blk_drewN ?_ _ | refine blk_drew ?_ | refine blk_alloc ?_ _)); exact BK239.out⟩, ⟨by (with_reducible repeat (first | refine blk_drewN ?_ _ | refine blk_drew ?_ | refine blk_alloc ?_ _)); refine blk_put (cs := #[.int .u8 3, .string a0, .slice none 0 0]) ?_ 2 _ rfl; (with_reducible repeat (first | refine blk_drewN ?_ _ | refine blk_drew ?_ | refine blk_alloc ?_ _)); refine blk_put (cs := #[.int .u8 3, .string (⟨#[]⟩ : ByteArray), .slice none 0 0]) ?_ 1 _ rfl; (with_reducible repeat (first | refine blk_drewN ?_ _ | refine blk_drew ?_ | refine blk_alloc ?_ _)); refine blk_put (cs := #[.int .u8 0, .string (⟨#[]⟩ : ByteArray), .slice none 0 0]) ?_ 0 _ rfl; (with_reducible repeat (first | refine blk_drewN ?_ _ | refine blk_drew ?_ | refine blk_alloc ?_ _)); exact BK240.out⟩, ⟨by repeat (first | (with_reducible first | exact HB.out | apply below_alloc | apply pw_below_drewN | apply below_drew1 | refine below_set ?_ GE238.out | refine below_set ?_ GE239.out | refine below_set ?_ GE240.out) | exact HB.out)⟩⟩
  ·rw [if_neg c13] at H
   have c13b0 : decide (a2 < 0) = false := decide_eq_false c13
   clear c13
   (first | rw [c13b0] | (simp only [i64_w, i32_w]; rw [c13b0]) | skip)
   replace H := Option.bind_eq_some_iff.mp H
   obtain ⟨t241, A140, H⟩ := H
   replace H : (if t241 = true then ((mailroomref07_May.f k 3 a0 ([] : List (S67))).bind fun t242 => (mailroomref07_Mail.j0 k a2 a3 a4 (!t242) a1_0 a1_1 a1_2 a1_3 a1_4 a1_5 a1_6 3 a0)) else (mailroomref07_Mail.j0 k a2 a3 a4 true a1_0 a1_1 a1_2 a1_3 a1_4 a1_5 a1_6 3 a0)) = some (r1, r2, r3, r4) := H
   have A14 := Aside0.mk A140
   clear A140
   by_cases c15 : t241 = true
   ·subst c15
    have H1 : ((mailroomref07_May.f k 3 a0 ([] : List (S67))).bind fun t242 => (mailroomref07_Mail.j0 k a2 a3 a4 (!t242) a1_0 a1_1 a1_2 a1_3 a1_4 a1_5 a1_6 3 a0)) = some (r1, r2, r3, r4) := by rw [if_pos rfl] at H; exact H
    clear H
    have H := H1
    clear H1
    replace H := Option.bind_eq_some_iff.mp H
    obtain ⟨t242, A160, H⟩ := H
    replace H : (mailroomref07_Mail.j0 k a2 a3 a4 (!t242) a1_0 a1_1 a1_2 a1_3 a1_4 a1_5 a1_6 3 a0) = some (r1, r2, r3, r4) := H
    have A16 := Aside0.mk A160
    clear A160
    have H' := Aside0.mk H
    clear H
    go_wp2_with (first | (go_at_call 30; (with_reducible refine (mailroomref07_envid.calls k a4 true _ A14.out).mono ?_); rintro e w' ⟨rfl, ⟨nd, rfl⟩⟩; have hnb17 := NB240_238.out; have hnc17 := NB238_240.out; have hnb18 := NB240_239.out; have hnc18 := NB239_240.out; have hcz19_0 : w9.cell? ⟨gb240, 0, none⟩ = some (.int .u8 0) := (blk_cell BK240.out 0).trans rfl; have hcz19_1 : w9.cell? ⟨gb240, 1, none⟩ = some (.string (⟨#[]⟩ : ByteArray)) := (blk_cell BK240.out 1).trans rfl; have hcz19_2 : w9.cell? ⟨gb240, 2, none⟩ = some (.slice none 0 0) := (blk_cell BK240.out 2).trans rfl; have hfz19_0 := blk_frozen BK240.out 0; have hfz19_1 := blk_frozen BK240.out 1; have hfz19_2 := blk_frozen BK240.out 2) | (go_at_call 19; (refine (mailroomref07_May.calls k 3 a0 _ _ ([] : List (S67)) t242 _ ?side1 ?side2 A16.out).mono ?_); (case side1 => exact Kd.C_nil _ _); (case side2 => exact Nat.le_refl _); rintro e w20 ⟨rfl, hb⟩; have n0_ := Aside0.mk (blk_below (g := gb238) (o := .cells #[.bool a1_0, .bool a1_1, .bool a1_2, .bool a1_3, .bool a1_4, .bool a1_5, .int .i64 a1_6] 36 (0, 0)) (by (with_reducible repeat (first | refine blk_drewN ?_ _ | refine blk_drew ?_ | refine blk_alloc ?_ _)); refine blk_far ?_ NB238_240.out _; (with_reducible repeat (first | refine blk_drewN ?_ _ | refine blk_drew ?_ | refine blk_alloc ?_ _)); refine blk_far ?_ NB238_240.out _; (with_reducible repeat (first | refine blk_drewN ?_ _ | refine blk_drew ?_ | refine blk_alloc ?_ _)); refine blk_far ?_ NB238_240.out _; (with_reducible repeat (first | refine blk_drewN ?_ _ | refine blk_drew ?_ | refine blk_alloc ?_ _)); exact BK238.out) hb); have n1_ := Aside0.mk (blk_below (g := gb239) (o := .cells #[.int .u8 0, .string (⟨#[]⟩ : ByteArray), .slice none 0 0] 33 (0, 0)) (by (with_reducible repeat (first | refine blk_drewN ?_ _ | refine blk_drew ?_ | refine blk_alloc ?_ _)); refine blk_far ?_ NB239_240.out _; (with_reducible repeat (first | refine blk_drewN ?_ _ | refine blk_drew ?_ | refine blk_alloc ?_ _)); refine blk_far ?_ NB239_240.out _; (with_reducible repeat (first | refine blk_drewN ?_ _ | refine blk_drew ?_ | refine blk_alloc ?_ _)); refine blk_far ?_ NB239_240.out _; (with_reducible repeat (first | refine blk_drewN ?_ _ | refine blk_drew ?_ | refine blk_alloc ?_ _)); exact BK239.out) hb); have n2_ := Aside0.mk (blk_below (g := gb240) (o := .cells #[.int .u8 3, .string a0, .slice none 0 0] 33 (0, 0)) (by (with_reducible repeat (first | refine blk_drewN ?_ _ | refine blk_drew ?_ | refine blk_alloc ?_ _)); refine blk_put (cs := #[.int .u8 3, .string a0, .slice none 0 0]) ?_ 2 _ rfl; (with_reducible repeat (first | refine blk_drewN ?_ _ | refine blk_drew ?_ | refine blk_alloc ?_ _)); refine blk_put (cs := #[.int .u8 3, .string (⟨#[]⟩ : ByteArray), .slice none 0 0]) ?_ 1 _ rfl; (with_reducible repeat (first | refine blk_drewN ?_ _ | refine blk_drew ?_ | refine blk_alloc ?_ _)); refine blk_put (cs := #[.int .u8 0, .string (⟨#[]⟩ : ByteArray), .slice none 0 0]) ?_ 0 _ rfl; (with_reducible repeat (first | refine blk_drewN ?_ _ | refine blk_drew ?_ | refine blk_alloc ?_ _)); exact BK240.out) hb); have n3_ := Aside0.mk (below_step (by repeat (first | (with_reducible first | exact HB.out | apply below_alloc | apply pw_below_drewN | apply below_drew1 | refine below_set ?_ GE238.out | refine below_set ?_ GE239.out | refine below_set ?_ GE240.out) | exact HB.out)) hb); clear BK238; clear BK239; clear BK240; clear HB; have BK238 := n0_; have BK239 := n1_; have BK240 := n2_; have HB := n3_; clear n0_ n1_ n2_ n3_; (try clear hb); (try clear hb2); (try clear hk); (try clear hi)))
    go_meet
    case rel => exact ⟨_, (!t242), (by first | rfl | (simp; done) | (simp [*]; done)), H', ⟨by first | omega | exact Nat.le_refl _⟩, ⟨by (with_reducible repeat (first | refine blk_drewN ?_ _ | refine blk_drew ?_ | refine blk_alloc ?_ _)); exact BK238.out⟩, ⟨by (with_reducible repeat (first | refine blk_drewN ?_ _ | refine blk_drew ?_ | refine blk_alloc ?_ _)); exact BK239.out⟩, ⟨by (with_reducible repeat (first | refine blk_drewN ?_ _ | refine blk_drew ?_ | refine blk_alloc ?_ _)); exact BK240.out⟩, ⟨by repeat (first | (with_reducible first | exact HB.out | apply below_alloc | apply pw_below_drewN | apply below_drew1 | refine below_set ?_ GE238.out | refine below_set ?_ GE239.out | refine below_set ?_ GE240.out) | exact HB.out)⟩⟩
   ·replace c15 := Bool.eq_false_iff.mpr c15
    subst c15
    have H1 : (mailroomref07_Mail.j0 k a2 a3 a4 true a1_0 a1_1 a1_2 a1_3 a1_4 a1_5 a1_6 3 a0) = some (r1, r2, r3, r4) := by rw [if_neg (show ¬ (false = true) by decide)] at H; exact H
    clear H
    have H := H1
    clear H1
    have H' := Aside0.mk H
    clear H
    go_wp2_with (first | (go_at_call 30; (with_reducible refine (mailroomref07_envid.calls k a4 false _ A14.out).mono ?_); rintro e w' ⟨rfl, ⟨nd, rfl⟩⟩))
    go_meet
    case rel => exact ⟨_, (true), (by first | rfl | (simp; done) | (simp [*]; done)), H', ⟨by first | omega | exact Nat.le_refl _⟩, ⟨by (with_reducible repeat (first | refine blk_drewN ?_ _ | refine blk_drew ?_ | refine blk_alloc ?_ _)); refine blk_far ?_ NB238_240.out _; (with_reducible repeat (first | refine blk_drewN ?_ _ | refine blk_drew ?_ | refine blk_alloc ?_ _)); refine blk_far ?_ NB238_240.out _; (with_reducible repeat (first | refine blk_drewN ?_ _ | refine blk_drew ?_ | refine blk_alloc ?_ _)); refine blk_far ?_ NB238_240.out _; (with_reducible repeat (first | refine blk_drewN ?_ _ | refine blk_drew ?_ | refine blk_alloc ?_ _)); exact BK238.out⟩, ⟨by (with_reducible repeat (first | refine blk_drewN ?_ _ | refine blk_drew ?_ | refine blk_alloc ?_ _)); refine blk_far ?_ NB239_240.out _; (with_reducible repeat (first | refine blk_drewN ?_ _ | refine blk_drew ?_ | refine blk_alloc ?_ _)); refine blk_far ?_ NB239_240.out _; (with_reducible repeat (first | refine blk_drewN ?_ _ | refine blk_drew ?_ | refine blk_alloc ?_ _)); refine blk_far ?_ NB239_240.out _; (with_reducible repeat (first | refine blk_drewN ?_ _ | refine blk_drew ?_ | refine blk_alloc ?_ _)); exact BK239.out⟩, ⟨by (with_reducible repeat (first | refine blk_drewN ?_ _ | refine blk_drew ?_ | refine blk_alloc ?_ _)); refine blk_put (cs := #[.int .u8 3, .string a0, .slice none 0 0]) ?_ 2 _ rfl; (with_reducible repeat (first | refine blk_drewN ?_ _ | refine blk_drew ?_ | refine blk_alloc ?_ _)); refine blk_put (cs := #[.int .u8 3, .string (⟨#[]⟩ : ByteArray), .slice none 0 0]) ?_ 1 _ rfl; (with_reducible repeat (first | refine blk_drewN ?_ _ | refine blk_drew ?_ | refine blk_alloc ?_ _)); refine blk_put (cs := #[.int .u8 0, .string (⟨#[]⟩ : ByteArray), .slice none 0 0]) ?_ 0 _ rfl; (with_reducible repeat (first | refine blk_drewN ?_ _ | refine blk_drew ?_ | refine blk_alloc ?_ _)); exact BK240.out⟩, ⟨by repeat (first | (with_reducible first | exact HB.out | apply below_alloc | apply pw_below_drewN | apply below_drew1 | refine below_set ?_ GE238.out | refine below_set ?_ GE239.out | refine below_set ?_ GE240.out) | exact HB.out)⟩⟩
 case rest =>
  clear HC6
  try clear c1
  try clear p2
  try clear c7
  try clear c10
  try clear c11
  try clear c13
  try clear c13b0
  try clear c15
  try clear c17
  try clear c18
  try clear hcz12_0
  try clear hcz12_1
  try clear hcz12_2
  try clear hcz19_0
  try clear hcz19_1
  try clear hcz19_2
  try clear hfz12_0
  try clear hfz12_1
  try clear hfz12_2
  try clear hfz19_0
  try clear hfz19_1
  try clear hfz19_2
  obtain ⟨kq, x26_5, rfl, HA, HJ5, BK238, BK239, BK240, HB⟩ := hcut
  cases kq with
  | zero => exact absurd HA.out (by simp [mailroomref07_Mail.j0])
  | succ kj5 =>
   have H := HA.out
   clear HA
   simp only [mailroomref07_Mail.j0] at H
   by_cases c21 : x26_5 = true
   ·subst c21
    have H1 : (some (0, (⟨#[]⟩ : ByteArray), ([] : List (S67)), 4)) = some (r1, r2, r3, r4) := by rw [if_pos rfl] at H; exact H
    clear H
    have H := H1
    clear H1
    simp only [Option.some.injEq, Prod.mk.injEq] at H
    obtain ⟨rfl, rfl, rfl, rfl⟩ := H
    have hnb22 := NB239_238.out
    have hnc22 := NB238_239.out
    have hnb23 := NB239_240.out
    have hnc23 := NB240_239.out
    have hcz24_0 : wc.cell? ⟨gb239, 0, none⟩ = some (.int .u8 0) := (blk_cell BK239.out 0).trans rfl
    have hcz24_1 : wc.cell? ⟨gb239, 1, none⟩ = some (.string (⟨#[]⟩ : ByteArray)) := (blk_cell BK239.out 1).trans rfl
    have hcz24_2 : wc.cell? ⟨gb239, 2, none⟩ = some (.slice none 0 0) := (blk_cell BK239.out 2).trans rfl
    have hfz24_0 := blk_frozen BK239.out 0
    have hfz24_1 := blk_frozen BK239.out 1
    have hfz24_2 := blk_frozen BK239.out 2
    go_wp2
    refine bodyPost_ret (results_ct rfl _ _ gb239 33 #[.int .u8 0, .string (⟨#[]⟩ : ByteArray), .slice none 0 0] (0, 0) _ rfl (by (with_reducible repeat (first | refine blk_drewN ?_ _ | refine blk_drew ?_ | refine blk_alloc ?_ _)); refine blk_put (cs := #[.int .u8 0, .string (⟨#[]⟩ : ByteArray), .slice none 0 0]) ?_ 2 _ rfl; (with_reducible repeat (first | refine blk_drewN ?_ _ | refine blk_drew ?_ | refine blk_alloc ?_ _)); refine blk_put (cs := #[.int .u8 0, .string (⟨#[]⟩ : ByteArray), .slice none 0 0]) ?_ 1 _ rfl; (with_reducible repeat (first | refine blk_drewN ?_ _ | refine blk_drew ?_ | refine blk_alloc ?_ _)); refine blk_put (cs := #[.int .u8 0, .string (⟨#[]⟩ : ByteArray), .slice none 0 0]) ?_ 0 _ rfl; (with_reducible repeat (first | refine blk_drewN ?_ _ | refine blk_drew ?_ | refine blk_alloc ?_ _)); exact BK239.out) Tryz.underlying33 rfl (by kernel_rfl)) rfl ?_
    exact ⟨_, by first | rfl | (simp [errW_none, errW_some] <;> rfl) | (simp [*, errW_none, errW_some] <;> rfl), by first | exact Kd.R_nil _ _ _ _ _ | exact Kd.N_nil _ _ _ _ _ | exact Kd.V_nil _ _ _ _ _ | exact Kd.Q_nil _ _ _ _ _ | exact Kd.S_nil _ _ _ _ _, by repeat (first | (with_reducible first | exact HB.out | apply below_alloc | apply pw_below_drewN | apply below_drew1 | refine below_set ?_ GE238.out | refine below_set ?_ GE239.out | refine below_set ?_ GE240.out) | exact HB.out)⟩
   ·replace c21 := Bool.eq_false_iff.mpr c21
    subst c21
    have H1 : (if a1_5 = true then ((mailroomref02_Show.f kj5 a2).bind fun t243 => (if ([] : List (S67)).length < 4398046511104 then (mailroomref07_Mail.j1 kj5 a3 a4 a1_0 a1_1 a1_2 a1_3 a1_4 a1_5 a1_6 3 a0 (([] : List (S67)) ++ [(⟨(⟨#[83, 73, 90, 69]⟩ : ByteArray), t243⟩ : S67)])) else (none))) else (mailroomref07_Mail.j1 kj5 a3 a4 a1_0 a1_1 a1_2 a1_3 a1_4 a1_5 a1_6 3 a0 ([] : List (S67)))) = some (r1, r2, r3, r4) := by rw [if_neg (show ¬ (false = true) by decide)] at H; exact H
    clear H
    have H := H1
    clear H1
    have HC25 := Aside0.mk H
    clear H
    have hnb26 := NB238_239.out
    have hnc26 := NB239_238.out
    have hnb27 := NB238_240.out
    have hnc27 := NB240_238.out
    have hcz28_0 : wc.cell? ⟨gb238, 0, none⟩ = some (.bool a1_0) := (blk_cell BK238.out 0).trans rfl
    have hcz28_1 : wc.cell? ⟨gb238, 1, none⟩ = some (.bool a1_1) := (blk_cell BK238.out 1).trans rfl
    have hcz28_2 : wc.cell? ⟨gb238, 2, none⟩ = some (.bool a1_2) := (blk_cell BK238.out 2).trans rfl
    have hcz28_3 : wc.cell? ⟨gb238, 3, none⟩ = some (.bool a1_3) := (blk_cell BK238.out 3).trans rfl
    have hcz28_4 : wc.cell? ⟨gb238, 4, none⟩ = some (.bool a1_4) := (blk_cell BK238.out 4).trans rfl
    have hcz28_5 : wc.cell? ⟨gb238, 5, none⟩ = some (.bool a1_5) := (blk_cell BK238.out 5).trans rfl
    have hcz28_6 : wc.cell? ⟨gb238, 6, none⟩ = some (.int .i64 a1_6) := (blk_cell BK238.out 6).trans rfl
    have hfz28_0 := blk_frozen BK238.out 0
    have hfz28_1 := blk_frozen BK238.out 1
    have hfz28_2 := blk_frozen BK238.out 2
    have hfz28_3 := blk_frozen BK238.out 3
    have hfz28_4 := blk_frozen BK238.out 4
    have hfz28_5 := blk_frozen BK238.out 5
    have hfz28_6 := blk_frozen BK238.out 6
    go_upto_if 29 with (fail)
    go_cut [] (fun wc => ∃ (kq : Nat) (x241002_24 : List (S67)) (u241002 : Value), Aside0 (mailroomref07_Mail.j1 kq a3 a4 a1_0 a1_1 a1_2 a1_3 a1_4 a1_5 a1_6 3 a0 x241002_24 = some (r1, r2, r3, r4)) ∧ Aside0 (kq ≤ kj5) ∧ Aside0 (Kd.R k67 67 wc w.heap.size (fun _ => True) u241002 x241002_24) ∧ Aside0 (wc.heap[gb238]? = some (.cells #[.bool a1_0, .bool a1_1, .bool a1_2, .bool a1_3, .bool a1_4, .bool a1_5, .int .i64 a1_6] 36 (0, 0))) ∧ Aside0 (wc.heap[gb239]? = some (.cells #[.int .u8 0, .string (⟨#[]⟩ : ByteArray), (.slice none 0 0)] 33 (0, 0))) ∧ Aside0 (wc.heap[gb240]? = some (.cells #[.int .u8 3, .string a0, u241002] 33 (0, 0))) ∧ Aside0 (Below w.heap.size w wc))
    case first =>
     have H := HC25.out
     clear HC25
     by_cases c29 : a1_5 = true
     ·subst c29
      have H1 : ((mailroomref02_Show.f kj5 a2).bind fun t243 => (if ([] : List (S67)).length < 4398046511104 then (mailroomref07_Mail.j1 kj5 a3 a4 a1_0 a1_1 a1_2 a1_3 a1_4 true a1_6 3 a0 (([] : List (S67)) ++ [(⟨(⟨#[83, 73, 90, 69]⟩ : ByteArray), t243⟩ : S67)])) else (none))) = some (r1, r2, r3, r4) := by rw [if_pos rfl] at H; exact H
      clear H
      have H := H1
      clear H1
      replace H := Option.bind_eq_some_iff.mp H
      obtain ⟨t243, A300, H⟩ := H
      replace H : (if ([] : List (S67)).length < 4398046511104 then (mailroomref07_Mail.j1 kj5 a3 a4 a1_0 a1_1 a1_2 a1_3 a1_4 true a1_6 3 a0 (([] : List (S67)) ++ [(⟨(⟨#[83, 73, 90, 69]⟩ : ByteArray), t243⟩ : S67)])) else (none)) = some (r1, r2, r3, r4) := H
      have A30 := Aside0.mk A300
      clear A300
      by_cases c31 : ([] : List (S67)).length < 4398046511104
      ·rw [if_pos c31] at H
       have LMc31 := Aside0.mk c31
       clear c31
       obtain ⟨y244, hy244⟩ : ∃ y_ : List (S67), y_ = (([] : List (S67)) ++ [(⟨(⟨#[83, 73, 90, 69]⟩ : ByteArray), t243⟩ : S67)]) := ⟨_, rfl⟩
       replace H : (mailroomref07_Mail.j1 kj5 a3 a4 a1_0 a1_1 a1_2 a1_3 a1_4 true a1_6 3 a0 y244) = some (r1, r2, r3, r4) := by first | (rw [hy244]; with_reducible exact H) | (have H2_ := (Option.bind_some _ _).symm.trans H; rw [hy244]; with_reducible exact H2_) | (have H2_ := (Option.bind_some _ _).symm.trans H; with_reducible exact H2_) | with_reducible exact H | (rw [hy244]; exact H) | exact H
       have Ny244 := Aside0.mk hy244
       clear hy244
       have H' := Aside0.mk H
       clear H
       try go_wp2
       have n0_ := Aside0.mk (blk_drew BK238.out)
       have n1_ := Aside0.mk (blk_drew BK239.out)
       have n2_ := Aside0.mk (blk_drew BK240.out)
       have n3_ := Aside0.mk (below_drew1 HB.out)
       clear BK238
       clear BK239
       clear BK240
       clear HB
       have BK238 := n0_
       have BK239 := n1_
       have BK240 := n2_
       have HB := n3_
       clear n0_ n1_ n2_ n3_
       refine start_ (n := 9) (S := fun w' => w'.cell? ⟨gb240, 0, none⟩ = some (.int .u8 3) ∧ w'.cell? ⟨gb240, 1, none⟩ = some (.string a0) ∧ w'.cell? ⟨gb240, 2, none⟩ = some (.slice none 0 0)) (ds := [8]) #[false, false, false, false, false, false, false, false, false] (by kernel_rfl) rfl rfl ⟨(blk_cell BK240.out 0).trans rfl, (blk_cell BK240.out 1).trans rfl, (blk_cell BK240.out 2).trans rfl⟩ (fun hHeld => ?_); refine with_tabW mailroomref07_Mail.tab5 mailroomref07_Mail.bits5 (fun HT_ HW_ => ?_)
       generalize wc.drew = w32 at BK238 BK239 BK240 HB hHeld ⊢
       refine pure_ (i := 0) (N := some 30) (v := ?_) (a' := ?_) #[true, false, false, false, false, false, false, false, false] rfl rfl (any_of HT_.out (by kernel_rfl)) (fun _ _ _ h => h) (Or.inl ⟨by rfl, ?_⟩) ?_ ?_
       rotate_left
       ·intro w'
        go_simp
        with_reducible rfl
       rotate_left
       ·simp only [Act.put, List.setIfInBounds_toArray, List.set_cons_zero, List.set_cons_succ, i64_w, i32_w]
        rfl
       refine pure_ (i := 2) (N := some 32) (v := ?_) (a' := ?_) #[true, false, true, false, false, false, false, false, false] rfl rfl (any_of HT_.out (by kernel_rfl)) (fun _ _ _ h => h) (Or.inl ⟨by rfl, ?_⟩) ?_ ?_
       rotate_left
       ·intro w'
        go_simp
        with_reducible rfl
       rotate_left
       ·simp only [Act.put, List.setIfInBounds_toArray, List.set_cons_zero, List.set_cons_succ, i64_w, i32_w]
        rfl
       refine take_ (i := 1) (N := some 31) (v := ?_) (a' := ?_) #[true, true, true, false, false, false, false, false, false] rfl rfl (take_ofW HT_.out HW_.out (by kernel_rfl)) (fun _ _ _ h => h) (Or.inl ⟨by rfl, ?_⟩) hHeld ?_ ?_
       rotate_left
       ·rintro w' ⟨s0, s1, s2⟩
        go_simp
        with_reducible rfl
       rotate_left
       ·simp only [Act.put, List.setIfInBounds_toArray, List.set_cons_zero, List.set_cons_succ, i64_w, i32_w]
        rfl
       refine one_ (i := 3) (N := some 33) #[true, true, true, true, false, false, false, false, false] rfl rfl (one_of HT_.out (by kernel_rfl)) (by decide) (fun K hK => ?_)
       refine goes_ Tryz.func31 (by kernel_rfl) rfl #[.int .i64 a2] (by rfl) rfl rfl (by (try simp only [List.map_toArray, List.map_cons, List.map_nil]); first | done | rfl | (simp only [List.length_drop, List.length_take]; rfl)) ?_
       with_reducible refine (mailroomref02_Show.calls kj5 a2 t243 _ A30.out).mono ?_
       rintro e w33 ⟨rfl, hb⟩
       refine ⟨_, rfl, ?_⟩
       have n0_ := Aside0.mk (blk_below (g := gb238) (o := .cells #[.bool a1_0, .bool a1_1, .bool a1_2, .bool a1_3, .bool a1_4, .bool true, .int .i64 a1_6] 36 (0, 0)) (by (with_reducible repeat (first | refine blk_drewN ?_ _ | refine blk_drew ?_ | refine blk_alloc ?_ _)); exact BK238.out) hb)
       have n1_ := Aside0.mk (blk_below (g := gb239) (o := .cells #[.int .u8 0, .string (⟨#[]⟩ : ByteArray), .slice none 0 0] 33 (0, 0)) (by (with_reducible repeat (first | refine blk_drewN ?_ _ | refine blk_drew ?_ | refine blk_alloc ?_ _)); exact BK239.out) hb)
       have n2_ := Aside0.mk (blk_below (g := gb240) (o := .cells #[.int .u8 3, .string a0, .slice none 0 0] 33 (0, 0)) (by (with_reducible repeat (first | refine blk_drewN ?_ _ | refine blk_drew ?_ | refine blk_alloc ?_ _)); exact BK240.out) hb)
       have n3_ := Aside0.mk (below_step (by repeat (first | (with_reducible first | exact HB.out | apply below_alloc | apply pw_below_drewN | apply below_drew1 | refine below_set ?_ GE238.out | refine below_set ?_ GE239.out | refine below_set ?_ GE240.out) | exact HB.out)) hb)
       clear BK238
       clear BK239
       clear BK240
       clear HB
       have BK238 := n0_
       have BK239 := n1_
       have BK240 := n2_
       have HB := n3_
       clear n0_ n1_ n2_ n3_
       (try clear hb)
       (try clear hb2)
       (try clear hk)
       (try clear hi)
       refine hK.out _ _ ⟨(blk_cell BK240.out 0).trans rfl, (blk_cell BK240.out 1).trans rfl, (blk_cell BK240.out 2).trans rfl⟩ (fun hHeld => ?_)
       clear hK K
       refine norm_ (a' := ?_) ?_ ?_
       rotate_left
       ·show Act.put _ (some 33) _ = _
        simp only [Act.put, List.setIfInBounds_toArray, List.set_cons_zero, List.set_cons_succ, i64_w, i32_w]
        rfl
       refine pure_ (i := 4) (N := some 34) (v := ?_) (a' := ?_) #[true, true, true, true, true, false, false, false, false] rfl rfl (any_of HT_.out (by kernel_rfl)) (fun _ _ _ h => h) (Or.inl ⟨by rfl, ?_⟩) ?_ ?_
       rotate_left
       ·intro w'
        go_simp
        with_reducible rfl
       rotate_left
       ·simp only [Act.put, List.setIfInBounds_toArray, List.set_cons_zero, List.set_cons_succ, i64_w, i32_w]
        rfl
       refine one_ (i := 5) (N := some 35) #[true, true, true, true, true, true, false, false, false] rfl rfl (one_of HT_.out (by kernel_rfl)) (by decide) (fun K hK => ?_)
       refine value_ (w1 := ?_) (v := ?_) (by rfl) rfl ?_ ?_
       rotate_left 2
       ·go_simp
        constructor
        ·rfl
        ·rfl
       refine hK.out _ _ ⟨(blk_cell (blk_alloc BK240.out _) 0).trans rfl, (blk_cell (blk_alloc BK240.out _) 1).trans rfl, (blk_cell (blk_alloc BK240.out _) 2).trans rfl⟩ (fun hHeld => ?_)
       clear hK K
       refine norm_ (a' := ?_) ?_ ?_
       rotate_left
       ·show Act.put _ (some 35) _ = _
        simp only [Act.put, List.setIfInBounds_toArray, List.set_cons_zero, List.set_cons_succ, i64_w, i32_w]
        rfl
       refine one_ (i := 6) (N := some 36) #[true, true, true, true, true, true, true, false, false] rfl rfl (one_of HT_.out (by kernel_rfl)) (by decide) (fun K hK => ?_)
       refine Kd.R_append_step k67 (w0 := w) w.heap.size (by rfl) (.tmp 31) (.tmp 35) 31 67 (.agg #[(.string ⟨#[]⟩), (.string ⟨#[]⟩)]) 32 rfl Tryz.underlying31 info67 rfl (by decide) (by omega) (.slice none 0 0) ([] : List (S67)) (⟨(⟨#[83, 73, 90, 69]⟩ : ByteArray), t243⟩ : S67) [.string (⟨#[83, 73, 90, 69]⟩ : ByteArray), .string t243] (fun _ => True) (fun _ => False) rfl rfl ?aP (fun _ hk => hk.elim) ?aF ?aO ?aB ?aS ?aL ?_
       (case aP => exact k67_mkM _ _ _ (⟨(⟨#[83, 73, 90, 69]⟩ : ByteArray), t243⟩ : S67))
       (case aB => exact (by repeat (first | (with_reducible first | exact HB.out | apply below_alloc | apply pw_below_drewN | apply below_drew1 | refine below_set ?_ GE238.out | refine below_set ?_ GE239.out | refine below_set ?_ GE240.out) | exact HB.out)))
       (case aF => exact (fun _ _ => trivial))
       (case aO => exact ((Kd.R_nil _ _ _ _ (fun _ => True))))
       (case aS => exact (below_size (by repeat (first | (with_reducible first | exact HB.out | apply below_alloc | apply pw_below_drewN | apply below_drew1 | refine below_set ?_ GE238.out | refine below_set ?_ GE239.out | refine below_set ?_ GE240.out) | exact HB.out))))
       (case aL => have := LMc31.out; omega)
       intro v245 w34 ho hb hg hat
       rw [← Ny244.out] at ho
       have n0_ := Aside0.mk (blk_grown (g := gb238) (o := .cells #[.bool a1_0, .bool a1_1, .bool a1_2, .bool a1_3, .bool a1_4, .bool true, .int .i64 a1_6] 36 (0, 0)) (by (with_reducible repeat (first | refine blk_drewN ?_ _ | refine blk_drew ?_ | refine blk_alloc ?_ _)); exact BK238.out) hg (by simp [Value.ownBlock]))
       have n1_ := Aside0.mk (blk_grown (g := gb239) (o := .cells #[.int .u8 0, .string (⟨#[]⟩ : ByteArray), .slice none 0 0] 33 (0, 0)) (by (with_reducible repeat (first | refine blk_drewN ?_ _ | refine blk_drew ?_ | refine blk_alloc ?_ _)); exact BK239.out) hg (by simp [Value.ownBlock]))
       have n2_ := Aside0.mk (blk_grown (g := gb240) (o := .cells #[.int .u8 3, .string a0, .slice none 0 0] 33 (0, 0)) (by (with_reducible repeat (first | refine blk_drewN ?_ _ | refine blk_drew ?_ | refine blk_alloc ?_ _)); exact BK240.out) hg (by simp [Value.ownBlock]))
       have n3_ := Aside0.mk (hb)
       have n4_ := Aside0.mk (ho)
       clear BK238
       clear BK239
       clear BK240
       clear HB
       have BK238 := n0_
       have BK239 := n1_
       have BK240 := n2_
       have HB := n3_
       have HO246 := n4_
       clear n0_ n1_ n2_ n3_ n4_
       clear ho hb hg hat
       obtain ⟨Ao35, co35, eo35⟩ := Kd.R_slice HO246.out
       (first | subst eo35 | (injection eo35 with f1_ f2_ f3_; have f4_ := f1_.symm; have f5_ := f3_.symm; clear f1_ f2_ f3_; subst f4_; subst f5_))
       refine hK.out _ _ ⟨(blk_cell BK240.out 0).trans rfl, (blk_cell BK240.out 1).trans rfl, (blk_cell BK240.out 2).trans rfl⟩ (fun hHeld => ?_)
       clear hK K
       refine norm_ (a' := ?_) ?_ ?_
       rotate_left
       ·show Act.put _ (some 36) _ = _
        simp only [Act.put, List.setIfInBounds_toArray, List.set_cons_zero, List.set_cons_succ, i64_w, i32_w]
        rfl
       refine pure_ (i := 7) (N := some 37) (v := ?_) (a' := ?_) #[true, true, true, true, true, true, true, true, false] rfl rfl (any_of HT_.out (by kernel_rfl)) (fun _ _ _ h => h) (Or.inl ⟨by rfl, ?_⟩) ?_ ?_
       rotate_left
       ·intro w'
        go_simp
        with_reducible rfl
       rotate_left
       ·simp only [Act.put, List.setIfInBounds_toArray, List.set_cons_zero, List.set_cons_succ, i64_w, i32_w]
        rfl
       refine last_ (i := 8) (N := none) #[true, true, true, true, true, true, true, true, true] rfl rfl (one_of HT_.out (by kernel_rfl)) (by decide) (fun K hK => ?_)
       have hs36 : w34.cell? ⟨gb240, 2, none⟩ = some (.slice none 0 0) := (blk_cell BK240.out 2).trans rfl
       have hfs36 := blk_frozen BK240.out 2
       have hns36_0 := NB238_240.out
       have hns36_1 := NB239_240.out
       have hms36_0 := NB240_238.out
       have hms36_1 := NB240_239.out
       refine skip_ (w1 := ?_) (by rfl) rfl ?_ ?_
       rotate_left
       ·go_simp
        rfl
       refine hK.out _ _ ?_
       clear hK K
       refine done_ (done_of HT_.out (by kernel_rfl)) ?_
       try go_wp2
       go_meet
       case rel => exact ⟨_, (y244), (.slice Ao35 y244.length co35), H', ⟨by have := HJ5.out; first | omega | exact Nat.le_refl _⟩, ⟨by (with_reducible repeat (first | apply Kd.R_alloc | apply Kd.R_drewN | apply Kd.R_drew)); exact Kd.R_mono (Kd.R_far (p := ⟨gb240, 2, none⟩) (Kd.R_types HO246.out BK240.out (by decide)) (fun _ hk => hk.2) (.slice Ao35 y244.length co35)) (fun _ hk => trivial)⟩, ⟨by (with_reducible repeat (first | refine blk_drewN ?_ _ | refine blk_drew ?_ | refine blk_alloc ?_ _)); refine blk_far ?_ NB238_240.out _; (with_reducible repeat (first | refine blk_drewN ?_ _ | refine blk_drew ?_ | refine blk_alloc ?_ _)); exact BK238.out⟩, ⟨by (with_reducible repeat (first | refine blk_drewN ?_ _ | refine blk_drew ?_ | refine blk_alloc ?_ _)); refine blk_far ?_ NB239_240.out _; (with_reducible repeat (first | refine blk_drewN ?_ _ | refine blk_drew ?_ | refine blk_alloc ?_ _)); exact BK239.out⟩, ⟨by (with_reducible repeat (first | refine blk_drewN ?_ _ | refine blk_drew ?_ | refine blk_alloc ?_ _)); refine blk_put (cs := #[.int .u8 3, .string a0, .slice none 0 0]) ?_ 2 _ rfl; (with_reducible repeat (first | refine blk_drewN ?_ _ | refine blk_drew ?_ | refine blk_alloc ?_ _)); exact BK240.out⟩, ⟨by repeat (first | (with_reducible first | exact HB.out | apply below_alloc | apply pw_below_drewN | apply below_drew1 | refine below_set ?_ GE238.out | refine below_set ?_ GE239.out | refine below_set ?_ GE240.out) | exact HB.out)⟩⟩
      ·rw [if_neg c31] at H
       exact absurd H (by simp)
     ·replace c29 := Bool.eq_false_iff.mpr c29
      subst c29
      have H1 : (mailroomref07_Mail.j1 kj5 a3 a4 a1_0 a1_1 a1_2 a1_3 a1_4 false a1_6 3 a0 ([] : List (S67))) = some (r1, r2, r3, r4) := by rw [if_neg (show ¬ (false = true) by decide)] at H; exact H
      clear H
      have H := H1
      clear H1
      have H' := Aside0.mk H
      clear H
      go_wp2
      go_meet
      case rel => exact ⟨_, (([] : List (S67))), (.slice none 0 0), H', ⟨by have := HJ5.out; first | omega | exact Nat.le_refl _⟩, ⟨by first | exact Kd.R_nil _ _ _ _ _ | exact Kd.N_nil _ _ _ _ _ | exact Kd.V_nil _ _ _ _ _ | exact Kd.Q_nil _ _ _ _ _ | exact Kd.S_nil _ _ _ _ _⟩, ⟨by (with_reducible repeat (first | refine blk_drewN ?_ _ | refine blk_drew ?_ | refine blk_alloc ?_ _)); exact BK238.out⟩, ⟨by (with_reducible repeat (first | refine blk_drewN ?_ _ | refine blk_drew ?_ | refine blk_alloc ?_ _)); exact BK239.out⟩, ⟨by (with_reducible repeat (first | refine blk_drewN ?_ _ | refine blk_drew ?_ | refine blk_alloc ?_ _)); exact BK240.out⟩, ⟨by repeat (first | (with_reducible first | exact HB.out | apply below_alloc | apply pw_below_drewN | apply below_drew1 | refine below_set ?_ GE238.out | refine below_set ?_ GE239.out | refine below_set ?_ GE240.out) | exact HB.out)⟩⟩
    case rest =>
     clear HC25
     try clear c1
     try clear c2
     try clear p2
     try clear c3
     try clear c7
     try clear c10
     try clear c11
     try clear c13
     try clear c13b0
     try clear c15
     try clear c17
     try clear c18
     try clear c21
     try clear c22
     try clear c23
     try clear c26
     try clear c27
     try clear c29
     try clear c31
     try clear hcz12_0
     try clear hcz12_1
     try clear hcz12_2
     try clear hcz19_0
     try clear hcz19_1
     try clear hcz19_2
     try clear hcz24_0
     try clear hcz24_1
     try clear hcz24_2
     try clear hcz28_0
     try clear hcz28_1
     try clear hcz28_2
     try clear hcz28_3
     try clear hcz28_4
     try clear hcz28_5
     try clear hcz28_6
     try clear hfz12_0
     try clear hfz12_1
     try clear hfz12_2
     try clear hfz19_0
     try clear hfz19_1
     try clear hfz19_2
     try clear hfz24_0
     try clear hfz24_1
     try clear hfz24_2
     try clear hfz28_0
     try clear hfz28_1
     try clear hfz28_2
     try clear hfz28_3
     try clear hfz28_4
     try clear hfz28_5
     try clear hfz28_6
     try clear p2
     obtain ⟨kq, x241002_24, u241002, HA, HJ24, HO_241002, BK238, BK239, BK240, HB⟩ := hcut
     cases kq with
     | zero => exact absurd HA.out (by simp [mailroomref07_Mail.j1])
     | succ kj24 =>
      have H := HA.out
      clear HA
      simp only [mailroomref07_Mail.j1] at H
      have HC37 := Aside0.mk H
      clear H
      go_upto_region 6 with (fail)
      go_cut [42] (fun v42 wc => ∃ (kq : Nat) (x42_36 : Bool), v42 = .bool x42_36 ∧ Aside0 (mailroomref07_Mail.j2 kq a4 x42_36 a1_0 a1_1 a1_2 a1_3 a1_4 a1_5 a1_6 3 a0 x241002_24 = some (r1, r2, r3, r4)) ∧ Aside0 (kq ≤ kj24) ∧ Aside0 (Kd.R k67 67 wc w.heap.size (fun _ => True) u241002 x241002_24) ∧ Aside0 (wc.heap[gb238]? = some (.cells #[.bool a1_0, .bool a1_1, .bool a1_2, .bool a1_3, .bool a1_4, .bool a1_5, .int .i64 a1_6] 36 (0, 0))) ∧ Aside0 (wc.heap[gb239]? = some (.cells #[.int .u8 0, .string (⟨#[]⟩ : ByteArray), (.slice none 0 0)] 33 (0, 0))) ∧ Aside0 (wc.heap[gb240]? = some (.cells #[.int .u8 3, .string a0, u241002] 33 (0, 0))) ∧ Aside0 (Below w.heap.size w wc))
      case first =>
       have H := HC37.out
       clear HC37
       by_cases c38 : a1_2 = true
       ·subst c38
        have H1 : (mailroomref07_Mail.j2 kj24 a4 a3 a1_0 a1_1 true a1_3 a1_4 a1_5 a1_6 3 a0 x241002_24) = some (r1, r2, r3, r4) := by rw [if_pos rfl] at H; exact H
        clear H
        have H := H1
        clear H1
        have H' := Aside0.mk H
        clear H
        have hnb39 := NB238_239.out
        have hnc39 := NB239_238.out
        have hnb40 := NB238_240.out
        have hnc40 := NB240_238.out
        have hcz41_0 : wc.cell? ⟨gb238, 0, none⟩ = some (.bool a1_0) := (blk_cell BK238.out 0).trans rfl
        have hcz41_1 : wc.cell? ⟨gb238, 1, none⟩ = some (.bool a1_1) := (blk_cell BK238.out 1).trans rfl
        have hcz41_2 : wc.cell? ⟨gb238, 2, none⟩ = some (.bool true) := (blk_cell BK238.out 2).trans rfl
        have hcz41_3 : wc.cell? ⟨gb238, 3, none⟩ = some (.bool a1_3) := (blk_cell BK238.out 3).trans rfl
        have hcz41_4 : wc.cell? ⟨gb238, 4, none⟩ = some (.bool a1_4) := (blk_cell BK238.out 4).trans rfl
        have hcz41_5 : wc.cell? ⟨gb238, 5, none⟩ = some (.bool a1_5) := (blk_cell BK238.out 5).trans rfl
        have hcz41_6 : wc.cell? ⟨gb238, 6, none⟩ = some (.int .i64 a1_6) := (blk_cell BK238.out 6).trans rfl
        have hfz41_0 := blk_frozen BK238.out 0
        have hfz41_1 := blk_frozen BK238.out 1
        have hfz41_2 := blk_frozen BK238.out 2
        have hfz41_3 := blk_frozen BK238.out 3
        have hfz41_4 := blk_frozen BK238.out 4
        have hfz41_5 := blk_frozen BK238.out 5
        have hfz41_6 := blk_frozen BK238.out 6
        go_wp2
        go_meet
        case rel => exact ⟨_, (a3), (by first | rfl | (simp; done) | (simp [*]; done)), H', ⟨by have := HJ5.out; have := HJ24.out; first | omega | exact Nat.le_refl _⟩, ⟨by (with_reducible repeat (first | apply Kd.R_alloc | apply Kd.R_drewN | apply Kd.R_drew)); exact HO_241002.out⟩, ⟨by (with_reducible repeat (first | refine blk_drewN ?_ _ | refine blk_drew ?_ | refine blk_alloc ?_ _)); exact BK238.out⟩, ⟨by (with_reducible repeat (first | refine blk_drewN ?_ _ | refine blk_drew ?_ | refine blk_alloc ?_ _)); exact BK239.out⟩, ⟨by (with_reducible repeat (first | refine blk_drewN ?_ _ | refine blk_drew ?_ | refine blk_alloc ?_ _)); exact BK240.out⟩, ⟨by repeat (first | (with_reducible first | exact HB.out | apply below_alloc | apply pw_below_drewN | apply below_drew1 | refine below_set ?_ GE238.out | refine below_set ?_ GE239.out | refine below_set ?_ GE240.out) | exact HB.out)⟩⟩
       ·replace c38 := Bool.eq_false_iff.mpr c38
        subst c38
        have H1 : (mailroomref07_Mail.j2 kj24 a4 false a1_0 a1_1 false a1_3 a1_4 a1_5 a1_6 3 a0 x241002_24) = some (r1, r2, r3, r4) := by rw [if_neg (show ¬ (false = true) by decide)] at H; exact H
        clear H
        have H := H1
        clear H1
        have H' := Aside0.mk H
        clear H
        have hnb42 := NB238_239.out
        have hnc42 := NB239_238.out
        have hnb43 := NB238_240.out
        have hnc43 := NB240_238.out
        have hcz44_0 : wc.cell? ⟨gb238, 0, none⟩ = some (.bool a1_0) := (blk_cell BK238.out 0).trans rfl
        have hcz44_1 : wc.cell? ⟨gb238, 1, none⟩ = some (.bool a1_1) := (blk_cell BK238.out 1).trans rfl
        have hcz44_2 : wc.cell? ⟨gb238, 2, none⟩ = some (.bool false) := (blk_cell BK238.out 2).trans rfl
        have hcz44_3 : wc.cell? ⟨gb238, 3, none⟩ = some (.bool a1_3) := (blk_cell BK238.out 3).trans rfl
        have hcz44_4 : wc.cell? ⟨gb238, 4, none⟩ = some (.bool a1_4) := (blk_cell BK238.out 4).trans rfl
        have hcz44_5 : wc.cell? ⟨gb238, 5, none⟩ = some (.bool a1_5) := (blk_cell BK238.out 5).trans rfl
        have hcz44_6 : wc.cell? ⟨gb238, 6, none⟩ = some (.int .i64 a1_6) := (blk_cell BK238.out 6).trans rfl
        have hfz44_0 := blk_frozen BK238.out 0
        have hfz44_1 := blk_frozen BK238.out 1
        have hfz44_2 := blk_frozen BK238.out 2
        have hfz44_3 := blk_frozen BK238.out 3
        have hfz44_4 := blk_frozen BK238.out 4
        have hfz44_5 := blk_frozen BK238.out 5
        have hfz44_6 := blk_frozen BK238.out 6
        go_wp2
        go_meet
        case rel => exact ⟨_, (false), (by first | rfl | (simp; done) | (simp [*]; done)), H', ⟨by have := HJ5.out; have := HJ24.out; first | omega | exact Nat.le_refl _⟩, ⟨by (with_reducible repeat (first | apply Kd.R_alloc | apply Kd.R_drewN | apply Kd.R_drew)); exact HO_241002.out⟩, ⟨by (with_reducible repeat (first | refine blk_drewN ?_ _ | refine blk_drew ?_ | refine blk_alloc ?_ _)); exact BK238.out⟩, ⟨by (with_reducible repeat (first | refine blk_drewN ?_ _ | refine blk_drew ?_ | refine blk_alloc ?_ _)); exact BK239.out⟩, ⟨by (with_reducible repeat (first | refine blk_drewN ?_ _ | refine blk_drew ?_ | refine blk_alloc ?_ _)); exact BK240.out⟩, ⟨by repeat (first | (with_reducible first | exact HB.out | apply below_alloc | apply pw_below_drewN | apply below_drew1 | refine below_set ?_ GE238.out | refine below_set ?_ GE239.out | refine below_set ?_ GE240.out) | exact HB.out)⟩⟩
      case rest =>
       clear HC37
       try clear c1
       try clear c2
       try clear p2
       try clear c3
       try clear c4
       try clear c7
       try clear c10
       try clear c11
       try clear c13
       try clear c13b0
       try clear c15
       try clear c17
       try clear c18
       try clear c21
       try clear c22
       try clear c23
       try clear c26
       try clear c27
       try clear c29
       try clear c31
       try clear c38
       try clear c39
       try clear c40
       try clear c42
       try clear c43
       try clear hcz12_0
       try clear hcz12_1
       try clear hcz12_2
       try clear hcz19_0
       try clear hcz19_1
       try clear hcz19_2
       try clear hcz24_0
       try clear hcz24_1
       try clear hcz24_2
       try clear hcz28_0
       try clear hcz28_1
       try clear hcz28_2
       try clear hcz28_3
       try clear hcz28_4
       try clear hcz28_5
       try clear hcz28_6
       try clear hcz41_0
       try clear hcz41_1
       try clear hcz41_2
       try clear hcz41_3
       try clear hcz41_4
       try clear hcz41_5
       try clear hcz41_6
       try clear hcz44_0
       try clear hcz44_1
       try clear hcz44_2
       try clear hcz44_3
       try clear hcz44_4
       try clear hcz44_5
       try clear hcz44_6
       try clear hfz12_0
       try clear hfz12_1
       try clear hfz12_2
       try clear hfz19_0
       try clear hfz19_1
       try clear hfz19_2
       try clear hfz24_0
       try clear hfz24_1
       try clear hfz24_2
       try clear hfz28_0
       try clear hfz28_1
       try clear hfz28_2
       try clear hfz28_3
       try clear hfz28_4
       try clear hfz28_5
       try clear hfz28_6
       try clear hfz41_0
       try clear hfz41_1
       try clear hfz41_2
       try clear hfz41_3
       try clear hfz41_4
       try clear hfz41_5
       try clear hfz41_6
       try clear hfz44_0
       try clear hfz44_1
       try clear hfz44_2
       try clear hfz44_3
       try clear hfz44_4
       try clear hfz44_5
       try clear hfz44_6
       try clear p2
       obtain ⟨kq, x42_36, rfl, HA, HJ36, HO_241002, BK238, BK239, BK240, HB⟩ := hcut
       cases kq with
       | zero => exact absurd HA.out (by simp [mailroomref07_Mail.j2])
       | succ kj36 =>
        have H := HA.out
        clear HA
        simp only [mailroomref07_Mail.j2] at H
        by_cases c45 : x42_36 = true
        ·subst c45
         have H1 : (if x241002_24.length < 4398046511104 then ((some (x241002_24 ++ [(⟨(⟨#[82, 69, 81, 85, 73, 82, 69, 84, 76, 83]⟩ : ByteArray), (⟨#[]⟩ : ByteArray)⟩ : S67)] : List (S67))).bind fun y247 => (if a1_3 = true then (if a4.toList = ([] : List UInt8) then (some (3, a0, y247, 0)) else (if y247.length < 4398046511104 then (some (3, a0, (y247 ++ [(⟨(⟨#[69, 78, 86, 73, 68]⟩ : ByteArray), a4⟩ : S67)]), 0)) else (none))) else (some (3, a0, y247, 0)))) else (none)) = some (r1, r2, r3, r4) := by rw [if_pos rfl] at H; exact H
         clear H
         have H := H1
         clear H1
         by_cases c46 : x241002_24.length < 4398046511104
         ·rw [if_pos c46] at H
          have LMc46 := Aside0.mk c46
          clear c46
          obtain ⟨y247, hy247⟩ : ∃ y_ : List (S67), y_ = (x241002_24 ++ [(⟨(⟨#[82, 69, 81, 85, 73, 82, 69, 84, 76, 83]⟩ : ByteArray), (⟨#[]⟩ : ByteArray)⟩ : S67)]) := ⟨_, rfl⟩
          replace H : (if a1_3 = true then (if a4.toList = ([] : List UInt8) then (some (3, a0, y247, 0)) else (if y247.length < 4398046511104 then (some (3, a0, (y247 ++ [(⟨(⟨#[69, 78, 86, 73, 68]⟩ : ByteArray), a4⟩ : S67)]), 0)) else (none))) else (some (3, a0, y247, 0))) = some (r1, r2, r3, r4) := by first | (rw [hy247]; with_reducible exact H) | (have H2_ := (Option.bind_some _ _).symm.trans H; rw [hy247]; with_reducible exact H2_) | (have H2_ := (Option.bind_some _ _).symm.trans H; with_reducible exact H2_) | with_reducible exact H | (rw [hy247]; exact H) | exact H
          have Ny247 := Aside0.mk hy247
          clear hy247
          by_cases c47 : a1_3 = true
          ·subst c47
           have H1 : (if a4.toList = ([] : List UInt8) then (some (3, a0, y247, 0)) else (if y247.length < 4398046511104 then (some (3, a0, (y247 ++ [(⟨(⟨#[69, 78, 86, 73, 68]⟩ : ByteArray), a4⟩ : S67)]), 0)) else (none))) = some (r1, r2, r3, r4) := by rw [if_pos rfl] at H; exact H
           clear H
           have H := H1
           clear H1
           by_cases c48 : a4.toList = ([] : List UInt8)
           ·rw [if_pos c48] at H
            have c48b0 : (a4.toList == ([] : List UInt8)) = true := beq_iff_eq.mpr c48
            have c48b1 : (a4.toList != ([] : List UInt8)) = false := bne_eq_false_iff_eq.mpr c48
            clear c48
            simp only [Option.some.injEq, Prod.mk.injEq] at H
            obtain ⟨rfl, rfl, rfl, rfl⟩ := H
            have hnb49 := NB240_238.out
            have hnc49 := NB238_240.out
            have hnb50 := NB240_239.out
            have hnc50 := NB239_240.out
            have hcz51_0 : wc.cell? ⟨gb240, 0, none⟩ = some (.int .u8 3) := (blk_cell BK240.out 0).trans rfl
            have hcz51_1 : wc.cell? ⟨gb240, 1, none⟩ = some (.string a0) := (blk_cell BK240.out 1).trans rfl
            have hcz51_2 : wc.cell? ⟨gb240, 2, none⟩ = some (u241002) := (blk_cell BK240.out 2).trans rfl
            have hfz51_0 := blk_frozen BK240.out 0
            have hfz51_1 := blk_frozen BK240.out 1
            have hfz51_2 := blk_frozen BK240.out 2
            go_wp2_with (first | ((with_reducible refine gate_builtin (b := .append) (xs := #[.tmp 44, .tmp 46]) rfl ?_); at_builtin; refine Kd.R_append k67 (w0 := w) w.heap.size rfl (.tmp 44) (.tmp 46) 31 67 (.agg #[(.string ⟨#[]⟩), (.string ⟨#[]⟩)]) 32 rfl Tryz.underlying31 info67 rfl (by decide) (by omega) u241002 x241002_24 (⟨(⟨#[82, 69, 81, 85, 73, 82, 69, 84, 76, 83]⟩ : ByteArray), (⟨#[]⟩ : ByteArray)⟩ : S67) [.string (⟨#[82, 69, 81, 85, 73, 82, 69, 84, 76, 83]⟩ : ByteArray), .string (⟨#[]⟩ : ByteArray)] (fun _ => True) (fun _ => False) rfl rfl ?aP (fun _ hk => hk.elim) ?aF ?aO ?aB ?aS ?aL ?_; (case aP => exact k67_mkM _ _ _ (⟨(⟨#[82, 69, 81, 85, 73, 82, 69, 84, 76, 83]⟩ : ByteArray), (⟨#[]⟩ : ByteArray)⟩ : S67)); (case aB => exact (by repeat (first | (with_reducible first | exact HB.out | apply below_alloc | apply pw_below_drewN | apply below_drew1 | refine below_set ?_ GE238.out | refine below_set ?_ GE239.out | refine below_set ?_ GE240.out) | exact HB.out))); (case aF => exact (fun _ _ => trivial)); (case aO => exact (by (with_reducible repeat (first | apply Kd.R_alloc | apply Kd.R_drewN | apply Kd.R_drew)); exact HO_241002.out)); (case aS => exact (below_size (by repeat (first | (with_reducible first | exact HB.out | apply below_alloc | apply pw_below_drewN | apply below_drew1 | refine below_set ?_ GE238.out | refine below_set ?_ GE239.out | refine below_set ?_ GE240.out) | exact HB.out)))); (case aL => have := LMc46.out; omega); intro v248 w52 ho hb hg hat; rw [← Ny247.out] at ho; have n0_ := Aside0.mk (blk_grown (g := gb238) (o := .cells #[.bool a1_0, .bool a1_1, .bool a1_2, .bool true, .bool a1_4, .bool a1_5, .int .i64 a1_6] 36 (0, 0)) (by (with_reducible repeat (first | refine blk_drewN ?_ _ | refine blk_drew ?_ | refine blk_alloc ?_ _)); exact BK238.out) hg (Kd.R_ne HO_241002.out BK238.out (by decide))); have n1_ := Aside0.mk (blk_grown (g := gb239) (o := .cells #[.int .u8 0, .string (⟨#[]⟩ : ByteArray), .slice none 0 0] 33 (0, 0)) (by (with_reducible repeat (first | refine blk_drewN ?_ _ | refine blk_drew ?_ | refine blk_alloc ?_ _)); exact BK239.out) hg (Kd.R_ne HO_241002.out BK239.out (by decide))); have n2_ := Aside0.mk (blk_grown (g := gb240) (o := .cells #[.int .u8 3, .string a0, u241002] 33 (0, 0)) (by (with_reducible repeat (first | refine blk_drewN ?_ _ | refine blk_drew ?_ | refine blk_alloc ?_ _)); exact BK240.out) hg (Kd.R_ne HO_241002.out BK240.out (by decide))); have n3_ := Aside0.mk (hb); have n4_ := Aside0.mk (ho); clear BK238; clear BK239; clear BK240; clear HB; clear HO_241002; have BK238 := n0_; have BK239 := n1_; have BK240 := n2_; have HB := n3_; have HO249 := n4_; clear n0_ n1_ n2_ n3_ n4_; clear ho hb hg hat; obtain ⟨Ao53, co53, eo53⟩ := Kd.R_slice HO249.out; subst eo53; have hcz54_0 : w52.cell? ⟨gb240, 0, none⟩ = some (.int .u8 3) := (blk_cell BK240.out 0).trans rfl; have hcz54_1 : w52.cell? ⟨gb240, 1, none⟩ = some (.string a0) := (blk_cell BK240.out 1).trans rfl; have hcz54_2 : w52.cell? ⟨gb240, 2, none⟩ = some (u241002) := (blk_cell BK240.out 2).trans rfl; have hfz54_0 := blk_frozen BK240.out 0; have hfz54_1 := blk_frozen BK240.out 1; have hfz54_2 := blk_frozen BK240.out 2; have hnb55 := NB238_239.out; have hnc55 := NB239_238.out; have hcz56_0 : w52.cell? ⟨gb238, 0, none⟩ = some (.bool a1_0) := (blk_cell BK238.out 0).trans rfl; have hcz56_1 : w52.cell? ⟨gb238, 1, none⟩ = some (.bool a1_1) := (blk_cell BK238.out 1).trans rfl; have hcz56_2 : w52.cell? ⟨gb238, 2, none⟩ = some (.bool a1_2) := (blk_cell BK238.out 2).trans rfl; have hcz56_3 : w52.cell? ⟨gb238, 3, none⟩ = some (.bool true) := (blk_cell BK238.out 3).trans rfl; have hcz56_4 : w52.cell? ⟨gb238, 4, none⟩ = some (.bool a1_4) := (blk_cell BK238.out 4).trans rfl; have hcz56_5 : w52.cell? ⟨gb238, 5, none⟩ = some (.bool a1_5) := (blk_cell BK238.out 5).trans rfl; have hcz56_6 : w52.cell? ⟨gb238, 6, none⟩ = some (.int .i64 a1_6) := (blk_cell BK238.out 6).trans rfl; have hfz56_0 := blk_frozen BK238.out 0; have hfz56_1 := blk_frozen BK238.out 1; have hfz56_2 := blk_frozen BK238.out 2; have hfz56_3 := blk_frozen BK238.out 3; have hfz56_4 := blk_frozen BK238.out 4; have hfz56_5 := blk_frozen BK238.out 5; have hfz56_6 := blk_frozen BK238.out 6; have hcz57_0 : w52.cell? ⟨gb239, 0, none⟩ = some (.int .u8 0) := (blk_cell BK239.out 0).trans rfl; have hcz57_1 : w52.cell? ⟨gb239, 1, none⟩ = some (.string (⟨#[]⟩ : ByteArray)) := (blk_cell BK239.out 1).trans rfl; have hcz57_2 : w52.cell? ⟨gb239, 2, none⟩ = some (.slice none 0 0) := (blk_cell BK239.out 2).trans rfl; have hfz57_0 := blk_frozen BK239.out 0; have hfz57_1 := blk_frozen BK239.out 1; have hfz57_2 := blk_frozen BK239.out 2))
            refine bodyPost_ret (results_ct rfl _ _ gb239 33 #[.int .u8 3, .string a0, .slice Ao53 y247.length co53] (0, 0) _ rfl (by (with_reducible repeat (first | refine blk_drewN ?_ _ | refine blk_drew ?_ | refine blk_alloc ?_ _)); refine blk_put (cs := #[.int .u8 3, .string a0, .slice none 0 0]) ?_ 2 _ rfl; (with_reducible repeat (first | refine blk_drewN ?_ _ | refine blk_drew ?_ | refine blk_alloc ?_ _)); refine blk_put (cs := #[.int .u8 3, .string (⟨#[]⟩ : ByteArray), .slice none 0 0]) ?_ 1 _ rfl; (with_reducible repeat (first | refine blk_drewN ?_ _ | refine blk_drew ?_ | refine blk_alloc ?_ _)); refine blk_put (cs := #[.int .u8 0, .string (⟨#[]⟩ : ByteArray), .slice none 0 0]) ?_ 0 _ rfl; (with_reducible repeat (first | refine blk_drewN ?_ _ | refine blk_drew ?_ | refine blk_alloc ?_ _)); refine blk_far ?_ NB239_240.out _; (with_reducible repeat (first | refine blk_drewN ?_ _ | refine blk_drew ?_ | refine blk_alloc ?_ _)); exact BK239.out) Tryz.underlying33 rfl (by kernel_rfl)) rfl ?_
            exact ⟨_, by first | rfl | (simp [errW_none, errW_some] <;> rfl) | (simp [*, errW_none, errW_some] <;> rfl), by (with_reducible repeat (first | apply Kd.R_alloc | apply Kd.R_drewN | apply Kd.R_drew)); exact Kd.R_mono (Kd.R_far (p := ⟨gb239, 2, none⟩) (Kd.R_far (p := ⟨gb239, 1, none⟩) (Kd.R_far (p := ⟨gb239, 0, none⟩) (Kd.R_far (p := ⟨gb240, 2, none⟩) (Kd.R_types (Kd.R_types HO249.out BK240.out (by decide)) BK239.out (by decide)) (fun _ hk => hk.1.2) (.slice Ao53 y247.length co53)) (fun _ hk => hk.2) (.int .u8 3)) (fun _ hk => hk.2) (.string a0)) (fun _ hk => hk.2) (.slice Ao53 y247.length co53)) (fun _ hk => trivial), by repeat (first | (with_reducible first | exact HB.out | apply below_alloc | apply pw_below_drewN | apply below_drew1 | refine below_set ?_ GE238.out | refine below_set ?_ GE239.out | refine below_set ?_ GE240.out) | exact HB.out)⟩
           ·rw [if_neg c48] at H
            have c48b0 : (a4.toList == ([] : List UInt8)) = false := beq_eq_false_iff_ne.mpr c48
            have c48b1 : (a4.toList != ([] : List UInt8)) = true := bne_iff_ne.mpr c48
            by_cases c58 : y247.length < 4398046511104
            ·rw [if_pos c58] at H
             have LMc58 := Aside0.mk c58
             clear c58
             obtain ⟨y250, hy250⟩ : ∃ y_ : List (S67), y_ = (y247 ++ [(⟨(⟨#[69, 78, 86, 73, 68]⟩ : ByteArray), a4⟩ : S67)]) := ⟨_, rfl⟩
             replace H : (some (3, a0, y250, 0)) = some (r1, r2, r3, r4) := by first | (rw [hy250]; with_reducible exact H) | (have H2_ := (Option.bind_some _ _).symm.trans H; rw [hy250]; with_reducible exact H2_) | (have H2_ := (Option.bind_some _ _).symm.trans H; with_reducible exact H2_) | with_reducible exact H | (rw [hy250]; exact H) | exact H
             have Ny250 := Aside0.mk hy250
             clear hy250
             simp only [Option.some.injEq, Prod.mk.injEq] at H
             obtain ⟨rfl, rfl, rfl, rfl⟩ := H
             have hnb59 := NB240_238.out
             have hnc59 := NB238_240.out
             have hnb60 := NB240_239.out
             have hnc60 := NB239_240.out
             have hcz61_0 : wc.cell? ⟨gb240, 0, none⟩ = some (.int .u8 3) := (blk_cell BK240.out 0).trans rfl
             have hcz61_1 : wc.cell? ⟨gb240, 1, none⟩ = some (.string a0) := (blk_cell BK240.out 1).trans rfl
             have hcz61_2 : wc.cell? ⟨gb240, 2, none⟩ = some (u241002) := (blk_cell BK240.out 2).trans rfl
             have hfz61_0 := blk_frozen BK240.out 0
             have hfz61_1 := blk_frozen BK240.out 1
             have hfz61_2 := blk_frozen BK240.out 2
             go_wp2_with (first | ((with_reducible refine gate_builtin (b := .append) (xs := #[.tmp 44, .tmp 46]) rfl ?_); at_builtin; refine Kd.R_append k67 (w0 := w) w.heap.size rfl (.tmp 44) (.tmp 46) 31 67 (.agg #[(.string ⟨#[]⟩), (.string ⟨#[]⟩)]) 32 rfl Tryz.underlying31 info67 rfl (by decide) (by omega) u241002 x241002_24 (⟨(⟨#[82, 69, 81, 85, 73, 82, 69, 84, 76, 83]⟩ : ByteArray), (⟨#[]⟩ : ByteArray)⟩ : S67) [.string (⟨#[82, 69, 81, 85, 73, 82, 69, 84, 76, 83]⟩ : ByteArray), .string (⟨#[]⟩ : ByteArray)] (fun _ => True) (fun _ => False) rfl rfl ?aP (fun _ hk => hk.elim) ?aF ?aO ?aB ?aS ?aL ?_; (case aP => exact k67_mkM _ _ _ (⟨(⟨#[82, 69, 81, 85, 73, 82, 69, 84, 76, 83]⟩ : ByteArray), (⟨#[]⟩ : ByteArray)⟩ : S67)); (case aB => exact (by repeat (first | (with_reducible first | exact HB.out | apply below_alloc | apply pw_below_drewN | apply below_drew1 | refine below_set ?_ GE238.out | refine below_set ?_ GE239.out | refine below_set ?_ GE240.out) | exact HB.out))); (case aF => exact (fun _ _ => trivial)); (case aO => exact (by (with_reducible repeat (first | apply Kd.R_alloc | apply Kd.R_drewN | apply Kd.R_drew)); exact HO_241002.out)); (case aS => exact (below_size (by repeat (first | (with_reducible first | exact HB.out | apply below_alloc | apply pw_below_drewN | apply below_drew1 | refine below_set ?_ GE238.out | refine below_set ?_ GE239.out | refine below_set ?_ GE240.out) | exact HB.out)))); (case aL => have := LMc46.out; omega); intro v248 w62 ho hb hg hat; rw [← Ny247.out] at ho; have n0_ := Aside0.mk (blk_grown (g := gb238) (o := .cells #[.bool a1_0, .bool a1_1, .bool a1_2, .bool true, .bool a1_4, .bool a1_5, .int .i64 a1_6] 36 (0, 0)) (by (with_reducible repeat (first | refine blk_drewN ?_ _ | refine blk_drew ?_ | refine blk_alloc ?_ _)); exact BK238.out) hg (Kd.R_ne HO_241002.out BK238.out (by decide))); have n1_ := Aside0.mk (blk_grown (g := gb239) (o := .cells #[.int .u8 0, .string (⟨#[]⟩ : ByteArray), .slice none 0 0] 33 (0, 0)) (by (with_reducible repeat (first | refine blk_drewN ?_ _ | refine blk_drew ?_ | refine blk_alloc ?_ _)); exact BK239.out) hg (Kd.R_ne HO_241002.out BK239.out (by decide))); have n2_ := Aside0.mk (blk_grown (g := gb240) (o := .cells #[.int .u8 3, .string a0, u241002] 33 (0, 0)) (by (with_reducible repeat (first | refine blk_drewN ?_ _ | refine blk_drew ?_ | refine blk_alloc ?_ _)); exact BK240.out) hg (Kd.R_ne HO_241002.out BK240.out (by decide))); have n3_ := Aside0.mk (hb); have n4_ := Aside0.mk (ho); clear BK238; clear BK239; clear BK240; clear HB; clear HO_241002; have BK238 := n0_; have BK239 := n1_; have BK240 := n2_; have HB := n3_; have HO249 := n4_; clear n0_ n1_ n2_ n3_ n4_; clear ho hb hg hat; obtain ⟨Ao63, co63, eo63⟩ := Kd.R_slice HO249.out; subst eo63; have hcz64_0 : w62.cell? ⟨gb240, 0, none⟩ = some (.int .u8 3) := (blk_cell BK240.out 0).trans rfl; have hcz64_1 : w62.cell? ⟨gb240, 1, none⟩ = some (.string a0) := (blk_cell BK240.out 1).trans rfl; have hcz64_2 : w62.cell? ⟨gb240, 2, none⟩ = some (u241002) := (blk_cell BK240.out 2).trans rfl; have hfz64_0 := blk_frozen BK240.out 0; have hfz64_1 := blk_frozen BK240.out 1; have hfz64_2 := blk_frozen BK240.out 2; have hnb65 := NB238_239.out; have hnc65 := NB239_238.out; have hcz66_0 : w62.cell? ⟨gb238, 0, none⟩ = some (.bool a1_0) := (blk_cell BK238.out 0).trans rfl; have hcz66_1 : w62.cell? ⟨gb238, 1, none⟩ = some (.bool a1_1) := (blk_cell BK238.out 1).trans rfl; have hcz66_2 : w62.cell? ⟨gb238, 2, none⟩ = some (.bool a1_2) := (blk_cell BK238.out 2).trans rfl; have hcz66_3 : w62.cell? ⟨gb238, 3, none⟩ = some (.bool true) := (blk_cell BK238.out 3).trans rfl; have hcz66_4 : w62.cell? ⟨gb238, 4, none⟩ = some (.bool a1_4) := (blk_cell BK238.out 4).trans rfl; have hcz66_5 : w62.cell? ⟨gb238, 5, none⟩ = some (.bool a1_5) := (blk_cell BK238.out 5).trans rfl; have hcz66_6 : w62.cell? ⟨gb238, 6, none⟩ = some (.int .i64 a1_6) := (blk_cell BK238.out 6).trans rfl; have hfz66_0 := blk_frozen BK238.out 0; have hfz66_1 := blk_frozen BK238.out 1; have hfz66_2 := blk_frozen BK238.out 2; have hfz66_3 := blk_frozen BK238.out 3; have hfz66_4 := blk_frozen BK238.out 4; have hfz66_5 := blk_frozen BK238.out 5; have hfz66_6 := blk_frozen BK238.out 6) | ((with_reducible refine gate_builtin (b := .append) (xs := #[.tmp 56, .tmp 59]) rfl ?_); at_builtin; refine Kd.R_append k67 (w0 := w) w.heap.size rfl (.tmp 56) (.tmp 59) 31 67 (.agg #[(.string ⟨#[]⟩), (.string ⟨#[]⟩)]) 32 rfl Tryz.underlying31 info67 rfl (by decide) (by omega) (.slice Ao63 y247.length co63) y247 (⟨(⟨#[69, 78, 86, 73, 68]⟩ : ByteArray), a4⟩ : S67) [.string (⟨#[69, 78, 86, 73, 68]⟩ : ByteArray), .string a4] (fun _ => True) (fun _ => False) rfl (by first | (go_simp; done) | (go_simp; rfl)) ?aP (fun _ hk => hk.elim) ?aF ?aO ?aB ?aS ?aL ?_; (case aP => exact k67_mkM _ _ _ (⟨(⟨#[69, 78, 86, 73, 68]⟩ : ByteArray), a4⟩ : S67)); (case aB => exact (by repeat (first | (with_reducible first | exact HB.out | apply below_alloc | apply pw_below_drewN | apply below_drew1 | refine below_set ?_ GE238.out | refine below_set ?_ GE239.out | refine below_set ?_ GE240.out) | exact HB.out))); (case aF => exact (fun _ _ => trivial)); (case aO => exact (by (with_reducible repeat (first | apply Kd.R_alloc | apply Kd.R_drewN | apply Kd.R_drew)); exact Kd.R_mono (Kd.R_far (p := ⟨gb240, 2, none⟩) (Kd.R_types HO249.out BK240.out (by decide)) (fun _ hk => hk.2) (.slice Ao63 y247.length co63)) (fun _ hk => trivial))); (case aS => exact (below_size (by repeat (first | (with_reducible first | exact HB.out | apply below_alloc | apply pw_below_drewN | apply below_drew1 | refine below_set ?_ GE238.out | refine below_set ?_ GE239.out | refine below_set ?_ GE240.out) | exact HB.out)))); (case aL => have := LMc58.out; omega); intro v251 w67 ho hb hg hat; rw [← Ny250.out] at ho; have n0_ := Aside0.mk (blk_grown (g := gb238) (o := .cells #[.bool a1_0, .bool a1_1, .bool a1_2, .bool true, .bool a1_4, .bool a1_5, .int .i64 a1_6] 36 (0, 0)) (by (with_reducible repeat (first | refine blk_drewN ?_ _ | refine blk_drew ?_ | refine blk_alloc ?_ _)); refine blk_far ?_ NB238_240.out _; (with_reducible repeat (first | refine blk_drewN ?_ _ | refine blk_drew ?_ | refine blk_alloc ?_ _)); exact BK238.out) hg (Kd.R_ne HO249.out BK238.out (by decide))); have n1_ := Aside0.mk (blk_grown (g := gb239) (o := .cells #[.int .u8 0, .string (⟨#[]⟩ : ByteArray), .slice none 0 0] 33 (0, 0)) (by (with_reducible repeat (first | refine blk_drewN ?_ _ | refine blk_drew ?_ | refine blk_alloc ?_ _)); refine blk_far ?_ NB239_240.out _; (with_reducible repeat (first | refine blk_drewN ?_ _ | refine blk_drew ?_ | refine blk_alloc ?_ _)); exact BK239.out) hg (Kd.R_ne HO249.out BK239.out (by decide))); have n2_ := Aside0.mk (blk_grown (g := gb240) (o := .cells #[.int .u8 3, .string a0, .slice Ao63 y247.length co63] 33 (0, 0)) (by (with_reducible repeat (first | refine blk_drewN ?_ _ | refine blk_drew ?_ | refine blk_alloc ?_ _)); refine blk_put (cs := #[.int .u8 3, .string a0, u241002]) ?_ 2 _ rfl; (with_reducible repeat (first | refine blk_drewN ?_ _ | refine blk_drew ?_ | refine blk_alloc ?_ _)); exact BK240.out) hg (Kd.R_ne HO249.out BK240.out (by decide))); have n3_ := Aside0.mk (hb); have n4_ := Aside0.mk (ho); clear BK238; clear BK239; clear BK240; clear HB; clear HO249; have BK238 := n0_; have BK239 := n1_; have BK240 := n2_; have HB := n3_; have HO252 := n4_; clear n0_ n1_ n2_ n3_ n4_; clear ho hb hg hat; obtain ⟨Ao68, co68, eo68⟩ := Kd.R_slice HO252.out; subst eo68; have hcz69_0 : w67.cell? ⟨gb240, 0, none⟩ = some (.int .u8 3) := (blk_cell BK240.out 0).trans rfl; have hcz69_1 : w67.cell? ⟨gb240, 1, none⟩ = some (.string a0) := (blk_cell BK240.out 1).trans rfl; have hcz69_2 : w67.cell? ⟨gb240, 2, none⟩ = some (.slice Ao63 y247.length co63) := (blk_cell BK240.out 2).trans rfl; have hfz69_0 := blk_frozen BK240.out 0; have hfz69_1 := blk_frozen BK240.out 1; have hfz69_2 := blk_frozen BK240.out 2; have hcz70_0 : w67.cell? ⟨gb239, 0, none⟩ = some (.int .u8 0) := (blk_cell BK239.out 0).trans rfl; have hcz70_1 : w67.cell? ⟨gb239, 1, none⟩ = some (.string (⟨#[]⟩ : ByteArray)) := (blk_cell BK239.out 1).trans rfl; have hcz70_2 : w67.cell? ⟨gb239, 2, none⟩ = some (.slice none 0 0) := (blk_cell BK239.out 2).trans rfl; have hfz70_0 := blk_frozen BK239.out 0; have hfz70_1 := blk_frozen BK239.out 1; have hfz70_2 := blk_frozen BK239.out 2))
             refine bodyPost_ret (results_ct rfl _ _ gb239 33 #[.int .u8 3, .string a0, .slice Ao68 y250.length co68] (0, 0) _ rfl (by (with_reducible repeat (first | refine blk_drewN ?_ _ | refine blk_drew ?_ | refine blk_alloc ?_ _)); refine blk_put (cs := #[.int .u8 3, .string a0, .slice none 0 0]) ?_ 2 _ rfl; (with_reducible repeat (first | refine blk_drewN ?_ _ | refine blk_drew ?_ | refine blk_alloc ?_ _)); refine blk_put (cs := #[.int .u8 3, .string (⟨#[]⟩ : ByteArray), .slice none 0 0]) ?_ 1 _ rfl; (with_reducible repeat (first | refine blk_drewN ?_ _ | refine blk_drew ?_ | refine blk_alloc ?_ _)); refine blk_put (cs := #[.int .u8 0, .string (⟨#[]⟩ : ByteArray), .slice none 0 0]) ?_ 0 _ rfl; (with_reducible repeat (first | refine blk_drewN ?_ _ | refine blk_drew ?_ | refine blk_alloc ?_ _)); refine blk_far ?_ NB239_240.out _; (with_reducible repeat (first | refine blk_drewN ?_ _ | refine blk_drew ?_ | refine blk_alloc ?_ _)); exact BK239.out) Tryz.underlying33 rfl (by kernel_rfl)) rfl ?_
             exact ⟨_, by first | rfl | (simp [errW_none, errW_some] <;> rfl) | (simp [*, errW_none, errW_some] <;> rfl), by (with_reducible repeat (first | apply Kd.R_alloc | apply Kd.R_drewN | apply Kd.R_drew)); exact Kd.R_mono (Kd.R_far (p := ⟨gb239, 2, none⟩) (Kd.R_far (p := ⟨gb239, 1, none⟩) (Kd.R_far (p := ⟨gb239, 0, none⟩) (Kd.R_far (p := ⟨gb240, 2, none⟩) (Kd.R_types (Kd.R_types HO252.out BK240.out (by decide)) BK239.out (by decide)) (fun _ hk => hk.1.2) (.slice Ao68 y250.length co68)) (fun _ hk => hk.2) (.int .u8 3)) (fun _ hk => hk.2) (.string a0)) (fun _ hk => hk.2) (.slice Ao68 y250.length co68)) (fun _ hk => trivial), by repeat (first | (with_reducible first | exact HB.out | apply below_alloc | apply pw_below_drewN | apply below_drew1 | refine below_set ?_ GE238.out | refine below_set ?_ GE239.out | refine below_set ?_ GE240.out) | exact HB.out)⟩
            ·rw [if_neg c58] at H
             exact absurd H (by simp)
          ·replace c47 := Bool.eq_false_iff.mpr c47
           subst c47
           have H1 : (some (3, a0, y247, 0)) = some (r1, r2, r3, r4) := by rw [if_neg (show ¬ (false = true) by decide)] at H; exact H
           clear H
           have H := H1
           clear H1
           simp only [Option.some.injEq, Prod.mk.injEq] at H
           obtain ⟨rfl, rfl, rfl, rfl⟩ := H
           have hnb71 := NB240_238.out
           have hnc71 := NB238_240.out
           have hnb72 := NB240_239.out
           have hnc72 := NB239_240.out
           have hcz73_0 : wc.cell? ⟨gb240, 0, none⟩ = some (.int .u8 3) := (blk_cell BK240.out 0).trans rfl
           have hcz73_1 : wc.cell? ⟨gb240, 1, none⟩ = some (.string a0) := (blk_cell BK240.out 1).trans rfl
           have hcz73_2 : wc.cell? ⟨gb240, 2, none⟩ = some (u241002) := (blk_cell BK240.out 2).trans rfl
           have hfz73_0 := blk_frozen BK240.out 0
           have hfz73_1 := blk_frozen BK240.out 1
           have hfz73_2 := blk_frozen BK240.out 2
           go_wp2_with (first | ((with_reducible refine gate_builtin (b := .append) (xs := #[.tmp 44, .tmp 46]) rfl ?_); at_builtin; refine Kd.R_append k67 (w0 := w) w.heap.size rfl (.tmp 44) (.tmp 46) 31 67 (.agg #[(.string ⟨#[]⟩), (.string ⟨#[]⟩)]) 32 rfl Tryz.underlying31 info67 rfl (by decide) (by omega) u241002 x241002_24 (⟨(⟨#[82, 69, 81, 85, 73, 82, 69, 84, 76, 83]⟩ : ByteArray), (⟨#[]⟩ : ByteArray)⟩ : S67) [.string (⟨#[82, 69, 81, 85, 73, 82, 69, 84, 76, 83]⟩ : ByteArray), .string (⟨#[]⟩ : ByteArray)] (fun _ => True) (fun _ => False) rfl rfl ?aP (fun _ hk => hk.elim) ?aF ?aO ?aB ?aS ?aL ?_; (case aP => exact k67_mkM _ _ _ (⟨(⟨#[82, 69, 81, 85, 73, 82, 69, 84, 76, 83]⟩ : ByteArray), (⟨#[]⟩ : ByteArray)⟩ : S67)); (case aB => exact (by repeat (first | (with_reducible first | exact HB.out | apply below_alloc | apply pw_below_drewN | apply below_drew1 | refine below_set ?_ GE238.out | refine below_set ?_ GE239.out | refine below_set ?_ GE240.out) | exact HB.out))); (case aF => exact (fun _ _ => trivial)); (case aO => exact (by (with_reducible repeat (first | apply Kd.R_alloc | apply Kd.R_drewN | apply Kd.R_drew)); exact HO_241002.out)); (case aS => exact (below_size (by repeat (first | (with_reducible first | exact HB.out | apply below_alloc | apply pw_below_drewN | apply below_drew1 | refine below_set ?_ GE238.out | refine below_set ?_ GE239.out | refine below_set ?_ GE240.out) | exact HB.out)))); (case aL => have := LMc46.out; omega); intro v248 w74 ho hb hg hat; rw [← Ny247.out] at ho; have n0_ := Aside0.mk (blk_grown (g := gb238) (o := .cells #[.bool a1_0, .bool a1_1, .bool a1_2, .bool false, .bool a1_4, .bool a1_5, .int .i64 a1_6] 36 (0, 0)) (by (with_reducible repeat (first | refine blk_drewN ?_ _ | refine blk_drew ?_ | refine blk_alloc ?_ _)); exact BK238.out) hg (Kd.R_ne HO_241002.out BK238.out (by decide))); have n1_ := Aside0.mk (blk_grown (g := gb239) (o := .cells #[.int .u8 0, .string (⟨#[]⟩ : ByteArray), .slice none 0 0] 33 (0, 0)) (by (with_reducible repeat (first | refine blk_drewN ?_ _ | refine blk_drew ?_ | refine blk_alloc ?_ _)); exact BK239.out) hg (Kd.R_ne HO_241002.out BK239.out (by decide))); have n2_ := Aside0.mk (blk_grown (g := gb240) (o := .cells #[.int .u8 3, .string a0, u241002] 33 (0, 0)) (by (with_reducible repeat (first | refine blk_drewN ?_ _ | refine blk_drew ?_ | refine blk_alloc ?_ _)); exact BK240.out) hg (Kd.R_ne HO_241002.out BK240.out (by decide))); have n3_ := Aside0.mk (hb); have n4_ := Aside0.mk (ho); clear BK238; clear BK239; clear BK240; clear HB; clear HO_241002; have BK238 := n0_; have BK239 := n1_; have BK240 := n2_; have HB := n3_; have HO249 := n4_; clear n0_ n1_ n2_ n3_ n4_; clear ho hb hg hat; obtain ⟨Ao75, co75, eo75⟩ := Kd.R_slice HO249.out; subst eo75; have hcz76_0 : w74.cell? ⟨gb240, 0, none⟩ = some (.int .u8 3) := (blk_cell BK240.out 0).trans rfl; have hcz76_1 : w74.cell? ⟨gb240, 1, none⟩ = some (.string a0) := (blk_cell BK240.out 1).trans rfl; have hcz76_2 : w74.cell? ⟨gb240, 2, none⟩ = some (u241002) := (blk_cell BK240.out 2).trans rfl; have hfz76_0 := blk_frozen BK240.out 0; have hfz76_1 := blk_frozen BK240.out 1; have hfz76_2 := blk_frozen BK240.out 2; have hnb77 := NB238_239.out; have hnc77 := NB239_238.out; have hcz78_0 : w74.cell? ⟨gb238, 0, none⟩ = some (.bool a1_0) := (blk_cell BK238.out 0).trans rfl; have hcz78_1 : w74.cell? ⟨gb238, 1, none⟩ = some (.bool a1_1) := (blk_cell BK238.out 1).trans rfl; have hcz78_2 : w74.cell? ⟨gb238, 2, none⟩ = some (.bool a1_2) := (blk_cell BK238.out 2).trans rfl; have hcz78_3 : w74.cell? ⟨gb238, 3, none⟩ = some (.bool false) := (blk_cell BK238.out 3).trans rfl; have hcz78_4 : w74.cell? ⟨gb238, 4, none⟩ = some (.bool a1_4) := (blk_cell BK238.out 4).trans rfl; have hcz78_5 : w74.cell? ⟨gb238, 5, none⟩ = some (.bool a1_5) := (blk_cell BK238.out 5).trans rfl; have hcz78_6 : w74.cell? ⟨gb238, 6, none⟩ = some (.int .i64 a1_6) := (blk_cell BK238.out 6).trans rfl; have hfz78_0 := blk_frozen BK238.out 0; have hfz78_1 := blk_frozen BK238.out 1; have hfz78_2 := blk_frozen BK238.out 2; have hfz78_3 := blk_frozen BK238.out 3; have hfz78_4 := blk_frozen BK238.out 4; have hfz78_5 := blk_frozen BK238.out 5; have hfz78_6 := blk_frozen BK238.out 6; have hcz79_0 : w74.cell? ⟨gb239, 0, none⟩ = some (.int .u8 0) := (blk_cell BK239.out 0).trans rfl; have hcz79_1 : w74.cell? ⟨gb239, 1, none⟩ = some (.string (⟨#[]⟩ : ByteArray)) := (blk_cell BK239.out 1).trans rfl; have hcz79_2 : w74.cell? ⟨gb239, 2, none⟩ = some (.slice none 0 0) := (blk_cell BK239.out 2).trans rfl; have hfz79_0 := blk_frozen BK239.out 0; have hfz79_1 := blk_frozen BK239.out 1; have hfz79_2 := blk_frozen BK239.out 2))
           refine bodyPost_ret (results_ct rfl _ _ gb239 33 #[.int .u8 3, .string a0, .slice Ao75 y247.length co75] (0, 0) _ rfl (by (with_reducible repeat (first | refine blk_drewN ?_ _ | refine blk_drew ?_ | refine blk_alloc ?_ _)); refine blk_put (cs := #[.int .u8 3, .string a0, .slice none 0 0]) ?_ 2 _ rfl; (with_reducible repeat (first | refine blk_drewN ?_ _ | refine blk_drew ?_ | refine blk_alloc ?_ _)); refine blk_put (cs := #[.int .u8 3, .string (⟨#[]⟩ : ByteArray), .slice none 0 0]) ?_ 1 _ rfl; (with_reducible repeat (first | refine blk_drewN ?_ _ | refine blk_drew ?_ | refine blk_alloc ?_ _)); refine blk_put (cs := #[.int .u8 0, .string (⟨#[]⟩ : ByteArray), .slice none 0 0]) ?_ 0 _ rfl; (with_reducible repeat (first | refine blk_drewN ?_ _ | refine blk_drew ?_ | refine blk_alloc ?_ _)); refine blk_far ?_ NB239_240.out _; (with_reducible repeat (first | refine blk_drewN ?_ _ | refine blk_drew ?_ | refine blk_alloc ?_ _)); exact BK239.out) Tryz.underlying33 rfl (by kernel_rfl)) rfl ?_
           exact ⟨_, by first | rfl | (simp [errW_none, errW_some] <;> rfl) | (simp [*, errW_none, errW_some] <;> rfl), by (with_reducible repeat (first | apply Kd.R_alloc | apply Kd.R_drewN | apply Kd.R_drew)); exact Kd.R_mono (Kd.R_far (p := ⟨gb239, 2, none⟩) (Kd.R_far (p := ⟨gb239, 1, none⟩) (Kd.R_far (p := ⟨gb239, 0, none⟩) (Kd.R_far (p := ⟨gb240, 2, none⟩) (Kd.R_types (Kd.R_types HO249.out BK240.out (by decide)) BK239.out (by decide)) (fun _ hk => hk.1.2) (.slice Ao75 y247.length co75)) (fun _ hk => hk.2) (.int .u8 3)) (fun _ hk => hk.2) (.string a0)) (fun _ hk => hk.2) (.slice Ao75 y247.length co75)) (fun _ hk => trivial), by repeat (first | (with_reducible first | exact HB.out | apply below_alloc | apply pw_below_drewN | apply below_drew1 | refine below_set ?_ GE238.out | refine below_set ?_ GE239.out | refine below_set ?_ GE240.out) | exact HB.out)⟩
         ·rw [if_neg c46] at H
          exact absurd H (by simp)
        ·replace c45 := Bool.eq_false_iff.mpr c45
         subst c45
         have H1 : (if a1_3 = true then (if a4.toList = ([] : List UInt8) then (some (3, a0, x241002_24, 0)) else (if x241002_24.length < 4398046511104 then (some (3, a0, (x241002_24 ++ [(⟨(⟨#[69, 78, 86, 73, 68]⟩ : ByteArray), a4⟩ : S67)]), 0)) else (none))) else (some (3, a0, x241002_24, 0))) = some (r1, r2, r3, r4) := by rw [if_neg (show ¬ (false = true) by decide)] at H; exact H
         clear H
         have H := H1
         clear H1
         by_cases c80 : a1_3 = true
         ·subst c80
          have H1 : (if a4.toList = ([] : List UInt8) then (some (3, a0, x241002_24, 0)) else (if x241002_24.length < 4398046511104 then (some (3, a0, (x241002_24 ++ [(⟨(⟨#[69, 78, 86, 73, 68]⟩ : ByteArray), a4⟩ : S67)]), 0)) else (none))) = some (r1, r2, r3, r4) := by rw [if_pos rfl] at H; exact H
          clear H
          have H := H1
          clear H1
          by_cases c81 : a4.toList = ([] : List UInt8)
          ·rw [if_pos c81] at H
           have c81b0 : (a4.toList == ([] : List UInt8)) = true := beq_iff_eq.mpr c81
           have c81b1 : (a4.toList != ([] : List UInt8)) = false := bne_eq_false_iff_eq.mpr c81
           clear c81
           simp only [Option.some.injEq, Prod.mk.injEq] at H
           obtain ⟨rfl, rfl, rfl, rfl⟩ := H
           have hnb82 := NB238_239.out
           have hnc82 := NB239_238.out
           have hnb83 := NB238_240.out
           have hnc83 := NB240_238.out
           have hcz84_0 : wc.cell? ⟨gb238, 0, none⟩ = some (.bool a1_0) := (blk_cell BK238.out 0).trans rfl
           have hcz84_1 : wc.cell? ⟨gb238, 1, none⟩ = some (.bool a1_1) := (blk_cell BK238.out 1).trans rfl
           have hcz84_2 : wc.cell? ⟨gb238, 2, none⟩ = some (.bool a1_2) := (blk_cell BK238.out 2).trans rfl
           have hcz84_3 : wc.cell? ⟨gb238, 3, none⟩ = some (.bool true) := (blk_cell BK238.out 3).trans rfl
           have hcz84_4 : wc.cell? ⟨gb238, 4, none⟩ = some (.bool a1_4) := (blk_cell BK238.out 4).trans rfl
           have hcz84_5 : wc.cell? ⟨gb238, 5, none⟩ = some (.bool a1_5) := (blk_cell BK238.out 5).trans rfl
           have hcz84_6 : wc.cell? ⟨gb238, 6, none⟩ = some (.int .i64 a1_6) := (blk_cell BK238.out 6).trans rfl
           have hfz84_0 := blk_frozen BK238.out 0
           have hfz84_1 := blk_frozen BK238.out 1
           have hfz84_2 := blk_frozen BK238.out 2
           have hfz84_3 := blk_frozen BK238.out 3
           have hfz84_4 := blk_frozen BK238.out 4
           have hfz84_5 := blk_frozen BK238.out 5
           have hfz84_6 := blk_frozen BK238.out 6
           have hnb85 := NB240_239.out
           have hnc85 := NB239_240.out
           have hcz86_0 : wc.cell? ⟨gb240, 0, none⟩ = some (.int .u8 3) := (blk_cell BK240.out 0).trans rfl
           have hcz86_1 : wc.cell? ⟨gb240, 1, none⟩ = some (.string a0) := (blk_cell BK240.out 1).trans rfl
           have hcz86_2 : wc.cell? ⟨gb240, 2, none⟩ = some (u241002) := (blk_cell BK240.out 2).trans rfl
           have hfz86_0 := blk_frozen BK240.out 0
           have hfz86_1 := blk_frozen BK240.out 1
           have hfz86_2 := blk_frozen BK240.out 2
           have hcz87_0 : wc.cell? ⟨gb239, 0, none⟩ = some (.int .u8 0) := (blk_cell BK239.out 0).trans rfl
           have hcz87_1 : wc.cell? ⟨gb239, 1, none⟩ = some (.string (⟨#[]⟩ : ByteArray)) := (blk_cell BK239.out 1).trans rfl
           have hcz87_2 : wc.cell? ⟨gb239, 2, none⟩ = some (.slice none 0 0) := (blk_cell BK239.out 2).trans rfl
           have hfz87_0 := blk_frozen BK239.out 0
           have hfz87_1 := blk_frozen BK239.out 1
           have hfz87_2 := blk_frozen BK239.out 2
           obtain ⟨Ao88, co88, eo88⟩ := Kd.R_slice HO_241002.out
           subst eo88
           go_wp2
           refine bodyPost_ret (results_ct rfl _ _ gb239 33 #[.int .u8 3, .string a0, .slice Ao88 x241002_24.length co88] (0, 0) _ rfl (by (with_reducible repeat (first | refine blk_drewN ?_ _ | refine blk_drew ?_ | refine blk_alloc ?_ _)); refine blk_put (cs := #[.int .u8 3, .string a0, .slice none 0 0]) ?_ 2 _ rfl; (with_reducible repeat (first | refine blk_drewN ?_ _ | refine blk_drew ?_ | refine blk_alloc ?_ _)); refine blk_put (cs := #[.int .u8 3, .string (⟨#[]⟩ : ByteArray), .slice none 0 0]) ?_ 1 _ rfl; (with_reducible repeat (first | refine blk_drewN ?_ _ | refine blk_drew ?_ | refine blk_alloc ?_ _)); refine blk_put (cs := #[.int .u8 0, .string (⟨#[]⟩ : ByteArray), .slice none 0 0]) ?_ 0 _ rfl; (with_reducible repeat (first | refine blk_drewN ?_ _ | refine blk_drew ?_ | refine blk_alloc ?_ _)); exact BK239.out) Tryz.underlying33 rfl (by kernel_rfl)) rfl ?_
           exact ⟨_, by first | rfl | (simp [errW_none, errW_some] <;> rfl) | (simp [*, errW_none, errW_some] <;> rfl), by (with_reducible repeat (first | apply Kd.R_alloc | apply Kd.R_drewN | apply Kd.R_drew)); exact Kd.R_mono (Kd.R_far (p := ⟨gb239, 2, none⟩) (Kd.R_far (p := ⟨gb239, 1, none⟩) (Kd.R_far (p := ⟨gb239, 0, none⟩) (Kd.R_types HO_241002.out BK239.out (by decide)) (fun _ hk => hk.2) (.int .u8 3)) (fun _ hk => hk.2) (.string a0)) (fun _ hk => hk.2) (.slice Ao88 x241002_24.length co88)) (fun _ hk => trivial), by repeat (first | (with_reducible first | exact HB.out | apply below_alloc | apply pw_below_drewN | apply below_drew1 | refine below_set ?_ GE238.out | refine below_set ?_ GE239.out | refine below_set ?_ GE240.out) | exact HB.out)⟩
          ·rw [if_neg c81] at H
           have c81b0 : (a4.toList == ([] : List UInt8)) = false := beq_eq_false_iff_ne.mpr c81
           have c81b1 : (a4.toList != ([] : List UInt8)) = true := bne_iff_ne.mpr c81
           by_cases c89 : x241002_24.length < 4398046511104
           ·rw [if_pos c89] at H
            have LMc89 := Aside0.mk c89
            clear c89
            obtain ⟨y253, hy253⟩ : ∃ y_ : List (S67), y_ = (x241002_24 ++ [(⟨(⟨#[69, 78, 86, 73, 68]⟩ : ByteArray), a4⟩ : S67)]) := ⟨_, rfl⟩
            replace H : (some (3, a0, y253, 0)) = some (r1, r2, r3, r4) := by first | (rw [hy253]; with_reducible exact H) | (have H2_ := (Option.bind_some _ _).symm.trans H; rw [hy253]; with_reducible exact H2_) | (have H2_ := (Option.bind_some _ _).symm.trans H; with_reducible exact H2_) | with_reducible exact H | (rw [hy253]; exact H) | exact H
            have Ny253 := Aside0.mk hy253
            clear hy253
            simp only [Option.some.injEq, Prod.mk.injEq] at H
            obtain ⟨rfl, rfl, rfl, rfl⟩ := H
            have hnb90 := NB238_239.out
            have hnc90 := NB239_238.out
            have hnb91 := NB238_240.out
            have hnc91 := NB240_238.out
            have hcz92_0 : wc.cell? ⟨gb238, 0, none⟩ = some (.bool a1_0) := (blk_cell BK238.out 0).trans rfl
            have hcz92_1 : wc.cell? ⟨gb238, 1, none⟩ = some (.bool a1_1) := (blk_cell BK238.out 1).trans rfl
            have hcz92_2 : wc.cell? ⟨gb238, 2, none⟩ = some (.bool a1_2) := (blk_cell BK238.out 2).trans rfl
            have hcz92_3 : wc.cell? ⟨gb238, 3, none⟩ = some (.bool true) := (blk_cell BK238.out 3).trans rfl
            have hcz92_4 : wc.cell? ⟨gb238, 4, none⟩ = some (.bool a1_4) := (blk_cell BK238.out 4).trans rfl
            have hcz92_5 : wc.cell? ⟨gb238, 5, none⟩ = some (.bool a1_5) := (blk_cell BK238.out 5).trans rfl
            have hcz92_6 : wc.cell? ⟨gb238, 6, none⟩ = some (.int .i64 a1_6) := (blk_cell BK238.out 6).trans rfl
            have hfz92_0 := blk_frozen BK238.out 0
            have hfz92_1 := blk_frozen BK238.out 1
            have hfz92_2 := blk_frozen BK238.out 2
            have hfz92_3 := blk_frozen BK238.out 3
            have hfz92_4 := blk_frozen BK238.out 4
            have hfz92_5 := blk_frozen BK238.out 5
            have hfz92_6 := blk_frozen BK238.out 6
            have hnb93 := NB240_239.out
            have hnc93 := NB239_240.out
            have hcz94_0 : wc.cell? ⟨gb240, 0, none⟩ = some (.int .u8 3) := (blk_cell BK240.out 0).trans rfl
            have hcz94_1 : wc.cell? ⟨gb240, 1, none⟩ = some (.string a0) := (blk_cell BK240.out 1).trans rfl
            have hcz94_2 : wc.cell? ⟨gb240, 2, none⟩ = some (u241002) := (blk_cell BK240.out 2).trans rfl
            have hfz94_0 := blk_frozen BK240.out 0
            have hfz94_1 := blk_frozen BK240.out 1
            have hfz94_2 := blk_frozen BK240.out 2
            go_wp2_with (first | ((with_reducible refine gate_builtin (b := .append) (xs := #[.tmp 56, .tmp 59]) rfl ?_); at_builtin; refine Kd.R_append k67 (w0 := w) w.heap.size rfl (.tmp 56) (.tmp 59) 31 67 (.agg #[(.string ⟨#[]⟩), (.string ⟨#[]⟩)]) 32 rfl Tryz.underlying31 info67 rfl (by decide) (by omega) u241002 x241002_24 (⟨(⟨#[69, 78, 86, 73, 68]⟩ : ByteArray), a4⟩ : S67) [.string (⟨#[69, 78, 86, 73, 68]⟩ : ByteArray), .string a4] (fun _ => True) (fun _ => False) rfl rfl ?aP (fun _ hk => hk.elim) ?aF ?aO ?aB ?aS ?aL ?_; (case aP => exact k67_mkM _ _ _ (⟨(⟨#[69, 78, 86, 73, 68]⟩ : ByteArray), a4⟩ : S67)); (case aB => exact (by repeat (first | (with_reducible first | exact HB.out | apply below_alloc | apply pw_below_drewN | apply below_drew1 | refine below_set ?_ GE238.out | refine below_set ?_ GE239.out | refine below_set ?_ GE240.out) | exact HB.out))); (case aF => exact (fun _ _ => trivial)); (case aO => exact (by (with_reducible repeat (first | apply Kd.R_alloc | apply Kd.R_drewN | apply Kd.R_drew)); exact HO_241002.out)); (case aS => exact (below_size (by repeat (first | (with_reducible first | exact HB.out | apply below_alloc | apply pw_below_drewN | apply below_drew1 | refine below_set ?_ GE238.out | refine below_set ?_ GE239.out | refine below_set ?_ GE240.out) | exact HB.out)))); (case aL => have := LMc89.out; omega); intro v254 w95 ho hb hg hat; rw [← Ny253.out] at ho; have n0_ := Aside0.mk (blk_grown (g := gb238) (o := .cells #[.bool a1_0, .bool a1_1, .bool a1_2, .bool true, .bool a1_4, .bool a1_5, .int .i64 a1_6] 36 (0, 0)) (by (with_reducible repeat (first | refine blk_drewN ?_ _ | refine blk_drew ?_ | refine blk_alloc ?_ _)); exact BK238.out) hg (Kd.R_ne HO_241002.out BK238.out (by decide))); have n1_ := Aside0.mk (blk_grown (g := gb239) (o := .cells #[.int .u8 0, .string (⟨#[]⟩ : ByteArray), .slice none 0 0] 33 (0, 0)) (by (with_reducible repeat (first | refine blk_drewN ?_ _ | refine blk_drew ?_ | refine blk_alloc ?_ _)); exact BK239.out) hg (Kd.R_ne HO_241002.out BK239.out (by decide))); have n2_ := Aside0.mk (blk_grown (g := gb240) (o := .cells #[.int .u8 3, .string a0, u241002] 33 (0, 0)) (by (with_reducible repeat (first | refine blk_drewN ?_ _ | refine blk_drew ?_ | refine blk_alloc ?_ _)); exact BK240.out) hg (Kd.R_ne HO_241002.out BK240.out (by decide))); have n3_ := Aside0.mk (hb); have n4_ := Aside0.mk (ho); clear BK238; clear BK239; clear BK240; clear HB; clear HO_241002; have BK238 := n0_; have BK239 := n1_; have BK240 := n2_; have HB := n3_; have HO255 := n4_; clear n0_ n1_ n2_ n3_ n4_; clear ho hb hg hat; obtain ⟨Ao96, co96, eo96⟩ := Kd.R_slice HO255.out; subst eo96; have hcz97_0 : w95.cell? ⟨gb240, 0, none⟩ = some (.int .u8 3) := (blk_cell BK240.out 0).trans rfl; have hcz97_1 : w95.cell? ⟨gb240, 1, none⟩ = some (.string a0) := (blk_cell BK240.out 1).trans rfl; have hcz97_2 : w95.cell? ⟨gb240, 2, none⟩ = some (u241002) := (blk_cell BK240.out 2).trans rfl; have hfz97_0 := blk_frozen BK240.out 0; have hfz97_1 := blk_frozen BK240.out 1; have hfz97_2 := blk_frozen BK240.out 2; have hcz98_0 : w95.cell? ⟨gb239, 0, none⟩ = some (.int .u8 0) := (blk_cell BK239.out 0).trans rfl; have hcz98_1 : w95.cell? ⟨gb239, 1, none⟩ = some (.string (⟨#[]⟩ : ByteArray)) := (blk_cell BK239.out 1).trans rfl; have hcz98_2 : w95.cell? ⟨gb239, 2, none⟩ = some (.slice none 0 0) := (blk_cell BK239.out 2).trans rfl; have hfz98_0 := blk_frozen BK239.out 0; have hfz98_1 := blk_frozen BK239.out 1; have hfz98_2 := blk_frozen BK239.out 2))
            refine bodyPost_ret (results_ct rfl _ _ gb239 33 #[.int .u8 3, .string a0, .slice Ao96 y253.length co96] (0, 0) _ rfl (by (with_reducible repeat (first | refine blk_drewN ?_ _ | refine blk_drew ?_ | refine blk_alloc ?_ _)); refine blk_put (cs := #[.int .u8 3, .string a0, .slice none 0 0]) ?_ 2 _ rfl; (with_reducible repeat (first | refine blk_drewN ?_ _ | refine blk_drew ?_ | refine blk_alloc ?_ _)); refine blk_put (cs := #[.int .u8 3, .string (⟨#[]⟩ : ByteArray), .slice none 0 0]) ?_ 1 _ rfl; (with_reducible repeat (first | refine blk_drewN ?_ _ | refine blk_drew ?_ | refine blk_alloc ?_ _)); refine blk_put (cs := #[.int .u8 0, .string (⟨#[]⟩ : ByteArray), .slice none 0 0]) ?_ 0 _ rfl; (with_reducible repeat (first | refine blk_drewN ?_ _ | refine blk_drew ?_ | refine blk_alloc ?_ _)); refine blk_far ?_ NB239_240.out _; (with_reducible repeat (first | refine blk_drewN ?_ _ | refine blk_drew ?_ | refine blk_alloc ?_ _)); exact BK239.out) Tryz.underlying33 rfl (by kernel_rfl)) rfl ?_
            exact ⟨_, by first | rfl | (simp [errW_none, errW_some] <;> rfl) | (simp [*, errW_none, errW_some] <;> rfl), by (with_reducible repeat (first | apply Kd.R_alloc | apply Kd.R_drewN | apply Kd.R_drew)); exact Kd.R_mono (Kd.R_far (p := ⟨gb239, 2, none⟩) (Kd.R_far (p := ⟨gb239, 1, none⟩) (Kd.R_far (p := ⟨gb239, 0, none⟩) (Kd.R_far (p := ⟨gb240, 2, none⟩) (Kd.R_types (Kd.R_types HO255.out BK240.out (by decide)) BK239.out (by decide)) (fun _ hk => hk.1.2) (.slice Ao96 y253.length co96)) (fun _ hk => hk.2) (.int .u8 3)) (fun _ hk => hk.2) (.string a0)) (fun _ hk => hk.2) (.slice Ao96 y253.length co96)) (fun _ hk => trivial), by repeat (first | (with_reducible first | exact HB.out | apply below_alloc | apply pw_below_drewN | apply below_drew1 | refine below_set ?_ GE238.out | refine below_set ?_ GE239.out | refine below_set ?_ GE240.out) | exact HB.out)⟩
           ·rw [if_neg c89] at H
            exact absurd H (by simp)
         ·replace c80 := Bool.eq_false_iff.mpr c80
          subst c80
          have H1 : (some (3, a0, x241002_24, 0)) = some (r1, r2, r3, r4) := by rw [if_neg (show ¬ (false = true) by decide)] at H; exact H
          clear H
          have H := H1
          clear H1
          simp only [Option.some.injEq, Prod.mk.injEq] at H
          obtain ⟨rfl, rfl, rfl, rfl⟩ := H
          have hnb99 := NB238_239.out
          have hnc99 := NB239_238.out
          have hnb100 := NB238_240.out
          have hnc100 := NB240_238.out
          have hcz101_0 : wc.cell? ⟨gb238, 0, none⟩ = some (.bool a1_0) := (blk_cell BK238.out 0).trans rfl
          have hcz101_1 : wc.cell? ⟨gb238, 1, none⟩ = some (.bool a1_1) := (blk_cell BK238.out 1).trans rfl
          have hcz101_2 : wc.cell? ⟨gb238, 2, none⟩ = some (.bool a1_2) := (blk_cell BK238.out 2).trans rfl
          have hcz101_3 : wc.cell? ⟨gb238, 3, none⟩ = some (.bool false) := (blk_cell BK238.out 3).trans rfl
          have hcz101_4 : wc.cell? ⟨gb238, 4, none⟩ = some (.bool a1_4) := (blk_cell BK238.out 4).trans rfl
          have hcz101_5 : wc.cell? ⟨gb238, 5, none⟩ = some (.bool a1_5) := (blk_cell BK238.out 5).trans rfl
          have hcz101_6 : wc.cell? ⟨gb238, 6, none⟩ = some (.int .i64 a1_6) := (blk_cell BK238.out 6).trans rfl
          have hfz101_0 := blk_frozen BK238.out 0
          have hfz101_1 := blk_frozen BK238.out 1
          have hfz101_2 := blk_frozen BK238.out 2
          have hfz101_3 := blk_frozen BK238.out 3
          have hfz101_4 := blk_frozen BK238.out 4
          have hfz101_5 := blk_frozen BK238.out 5
          have hfz101_6 := blk_frozen BK238.out 6
          have hnb102 := NB240_239.out
          have hnc102 := NB239_240.out
          have hcz103_0 : wc.cell? ⟨gb240, 0, none⟩ = some (.int .u8 3) := (blk_cell BK240.out 0).trans rfl
          have hcz103_1 : wc.cell? ⟨gb240, 1, none⟩ = some (.string a0) := (blk_cell BK240.out 1).trans rfl
          have hcz103_2 : wc.cell? ⟨gb240, 2, none⟩ = some (u241002) := (blk_cell BK240.out 2).trans rfl
          have hfz103_0 := blk_frozen BK240.out 0
          have hfz103_1 := blk_frozen BK240.out 1
          have hfz103_2 := blk_frozen BK240.out 2
          have hcz104_0 : wc.cell? ⟨gb239, 0, none⟩ = some (.int .u8 0) := (blk_cell BK239.out 0).trans rfl
          have hcz104_1 : wc.cell? ⟨gb239, 1, none⟩ = some (.string (⟨#[]⟩ : ByteArray)) := (blk_cell BK239.out 1).trans rfl
          have hcz104_2 : wc.cell? ⟨gb239, 2, none⟩ = some (.slice none 0 0) := (blk_cell BK239.out 2).trans rfl
          have hfz104_0 := blk_frozen BK239.out 0
          have hfz104_1 := blk_frozen BK239.out 1
          have hfz104_2 := blk_frozen BK239.out 2
          obtain ⟨Ao105, co105, eo105⟩ := Kd.R_slice HO_241002.out
          subst eo105
          go_wp2
          refine bodyPost_ret (results_ct rfl _ _ gb239 33 #[.int .u8 3, .string a0, .slice Ao105 x241002_24.length co105] (0, 0) _ rfl (by (with_reducible repeat (first | refine blk_drewN ?_ _ | refine blk_drew ?_ | refine blk_alloc ?_ _)); refine blk_put (cs := #[.int .u8 3, .string a0, .slice none 0 0]) ?_ 2 _ rfl; (with_reducible repeat (first | refine blk_drewN ?_ _ | refine blk_drew ?_ | refine blk_alloc ?_ _)); refine blk_put (cs := #[.int .u8 3, .string (⟨#[]⟩ : ByteArray), .slice none 0 0]) ?_ 1 _ rfl; (with_reducible repeat (first | refine blk_drewN ?_ _ | refine blk_drew ?_ | refine blk_alloc ?_ _)); refine blk_put (cs := #[.int .u8 0, .string (⟨#[]⟩ : ByteArray), .slice none 0 0]) ?_ 0 _ rfl; (with_reducible repeat (first | refine blk_drewN ?_ _ | refine blk_drew ?_ | refine blk_alloc ?_ _)); exact BK239.out) Tryz.underlying33 rfl (by kernel_rfl)) rfl ?_
          exact ⟨_, by first | rfl | (simp [errW_none, errW_some] <;> rfl) | (simp [*, errW_none, errW_some] <;> rfl), by (with_reducible repeat (first | apply Kd.R_alloc | apply Kd.R_drewN | apply Kd.R_drew)); exact Kd.R_mono (Kd.R_far (p := ⟨gb239, 2, none⟩) (Kd.R_far (p := ⟨gb239, 1, none⟩) (Kd.R_far (p := ⟨gb239, 0, none⟩) (Kd.R_types HO_241002.out BK239.out (by decide)) (fun _ hk => hk.2) (.int .u8 3)) (fun _ hk => hk.2) (.string a0)) (fun _ hk => hk.2) (.slice Ao105 x241002_24.length co105)) (fun _ hk => trivial), by repeat (first | (with_reducible first | exact HB.out | apply below_alloc | apply pw_below_drewN | apply below_drew1 | refine below_set ?_ GE238.out | refine below_set ?_ GE239.out | refine below_set ?_ GE240.out) | exact HB.out)⟩
end Go.Proofs.YtljkopbalejcgaaGreatDoor.P
end
section
set_option linter.unusedVariables false
set_option linter.unusedSimpArgs false
namespace Go.Proofs.YtljkopbalejcgaaGreatDoor.P
open Go Go.RowKit Go.Lib Go.Proofs.YtljkopbalejcgaaGreatDoorW.PrintWords
theorem ba_ext {a b : ByteArray} (h : a.data.toList = b.data.toList) : a = b := by
 cases a; cases b; congr 1; exact Array.toList_inj.1 h
def decPre (u : Nat) : List UInt8 := if u < 10 then [] else Lib.decDigits (u / 10)
theorem dec_pre (u : Nat) : Lib.decDigits u = decPre u ++ [UInt8.ofNat (48 + u % 10)] := by
 unfold decPre
 by_cases h : u < 10
 ·rw [if_pos h, Lib.decDigits, dif_pos h, Nat.mod_eq_of_lt h]; rfl
 ·rw [if_neg h, Lib.decDigits, dif_neg h]
theorem num_digit (u : Nat) : strOfNums ([(IntKind.u64.wrap (48 + (Int.tmod (u : Int) 10))) % 256] : List Int) = ⟨#[UInt8.ofNat (48 + u % 10)]⟩ := by
 have h1 : Int.tmod (u : Int) 10 = ((u % 10 : Nat) : Int) := by rw [Int.tmod_eq_emod_of_nonneg (by omega)]; omega
 rw [h1, IntWalk.u64_in _ (by omega)]
 unfold strOfNums
 have h2 : ((48 + ((u % 10 : Nat) : Int)) % 256).toNat = 48 + u % 10 := by omega
 simp only [List.map_cons, List.map_nil, h2]
theorem show_l (m : Nat) : ∀ (u : Nat) (s : ByteArray) (x0 : Int), 0 ≤ x0 → u < 10 ^ m → u ≤ 9223372036854775807 → s.size + m ≤ 1000 → EvF (fun k => mailroomref02_Show.l0 k x0 (u : Int) s) ((⟨(decPre u).toArray⟩ : ByteArray) ++ s) := by
 induction m with
 | zero =>
  intro u s x0 h0 hu hu' hs
  have e : u = 0 := by simpa using hu
  subst e
  refine EvF.succ_some fun k => ?_
  simp only [mailroomref02_Show.l0]
  rw [if_neg (by omega), if_neg (by omega)]
  exact congrArg some (ba_ext (by rw [ByteArray.data_append, Array.toList_append]; simp [decPre]))
 | succ m ih =>
  intro u s x0 h0 hu hu' hs
  by_cases h : u < 10
  ·refine EvF.succ_some fun k => ?_
   simp only [mailroomref02_Show.l0]
   rw [if_neg (by omega), if_neg (by omega)]
   exact congrArg some (ba_ext (by rw [ByteArray.data_append, Array.toList_append]; simp [decPre, h]))
  ·have hq : IntKind.u64.wrap (Int.tdiv (u : Int) 10) = ((u / 10 : Nat) : Int) := by rw [IntWalk.u64_quo _ _ (by omega)]; omega
   have hsz : ((⟨#[UInt8.ofNat (48 + u / 10 % 10)]⟩ : ByteArray) ++ s).size = 1 + s.size := by rw [ByteArray.size_append]; rfl
   have hV : (⟨(decPre u).toArray⟩ : ByteArray) ++ s = (⟨(decPre (u / 10)).toArray⟩ : ByteArray) ++ ((⟨#[UInt8.ofNat (48 + u / 10 % 10)]⟩ : ByteArray) ++ s) := by
    refine ba_ext ?_
    have e : decPre u = decPre (u / 10) ++ [UInt8.ofNat (48 + u / 10 % 10)] := by
     rw [← dec_pre]; unfold decPre; rw [if_neg h]
    simp [ByteArray.data_append, Array.toList_append, e]
   rw [hV]
   refine EvF.succ (ih (u / 10) ((⟨#[UInt8.ofNat (48 + u / 10 % 10)]⟩ : ByteArray) ++ s) x0 h0 (by rw [Nat.pow_succ] at hu; omega) (by omega) (by rw [hsz]; omega)) fun k => ?_
   simp only [mailroomref02_Show.l0, Option.bind_some]
   rw [if_pos (by omega), hq, num_digit, if_pos (by show 1 + s.size ≤ _; omega)]
theorem show_ev (n : Int) (h0 : 0 ≤ n) (h1 : n ≤ 9223372036854775807) : EvF (fun k => mailroomref02_Show.f k n) (⟨(Lib.itoa n).toArray⟩ : ByteArray) := by
 obtain ⟨u, rfl⟩ : ∃ u : Nat, n = (u : Int) := ⟨n.toNat, by omega⟩
 have e : (⟨(Lib.itoa (u : Int)).toArray⟩ : ByteArray) = (⟨(decPre u).toArray⟩ : ByteArray) ++ (⟨#[UInt8.ofNat (48 + u % 10)]⟩ : ByteArray) := by
  refine ba_ext ?_
  have h : Lib.itoa (u : Int) = Lib.decDigits u := by unfold Lib.itoa; rw [if_neg (by omega), Int.toNat_natCast]
  simp [ByteArray.data_append, Array.toList_append, h, dec_pre u]
 rw [e]
 have hl := show_l 19 u ⟨#[UInt8.ofNat (48 + u % 10)]⟩ (u : Int) h0 (by omega) (by omega) (by show 1 + 19 ≤ 1000; decide)
 refine (EvF.succ (f := fun k => mailroomref02_Show.j0 k (u : Int) (u : Int)) hl (fun k => ?_)).congr fun k => ?_
 ·simp only [mailroomref02_Show.j0]; rw [num_digit]
 ·unfold mailroomref02_Show.f
  rw [if_neg (by omega), IntWalk.u64_in _ (by omega)]
def mailT (a0 : ByteArray) (b2 b3 b5 : Bool) (a2 : Int) (a3 : Bool) (a4 : ByteArray) : Int × ByteArray × List S67 × Int :=
 ((mailR a0 b2 b3 b5 a2 a3 a4).1, (mailR a0 b2 b3 b5 a2 a3 a4).2.1, (mailR a0 b2 b3 b5 a2 a3 a4).2.2.1.map cv, (mailR a0 b2 b3 b5 a2 a3 a4).2.2.2)
theorem mail07_bad (k : Nat) (a2 : Int) (a3 : Bool) (a4 : ByteArray) (b0 b1 b2 b3 b4 b5 : Bool) (b6 v : Int) (a0 : ByteArray) : mailroomref07_Mail.j0 (k + 1) a2 a3 a4 true b0 b1 b2 b3 b4 b5 b6 v a0 = some (0, ⟨#[]⟩, [], 4) := by
 simp only [mailroomref07_Mail.j0]; rfl
theorem mail07_row (a2 : Int) (a3 : Bool) (a4 : ByteArray) (b0 b1 b2 b3 b4 b5 : Bool) (b6 v : Int) (a0 : ByteArray) (h0 : 0 ≤ a2) (h1 : a2 ≤ 9223372036854775807) :
  EvF (fun k => mailroomref07_Mail.j0 k a2 a3 a4 false b0 b1 b2 b3 b4 b5 b6 v a0) (v, a0, (mailRow b5 b2 b3 a3 ⟨(Lib.itoa a2).toArray⟩ a4).map cv, 0) := by
 have hS := show_ev a2 h0 h1
 generalize (⟨(Lib.itoa a2).toArray⟩ : ByteArray) = n at hS
 have key : ∀ (x : List S67), x.length ≤ 1 → EvF (fun k => mailroomref07_Mail.j1 k a3 a4 b0 b1 b2 b3 b4 b5 b6 v a0 x)
   (v, a0, (x ++ (if (b2 && a3) = true then [⟨⟨#[82, 69, 81, 85, 73, 82, 69, 84, 76, 83]⟩, ⟨#[]⟩⟩] else [])) ++ (if (b3 && (!a4.toList.isEmpty)) = true then [⟨⟨#[69, 78, 86, 73, 68]⟩, a4⟩] else []), 0) := by
  intro x hx
  refine EvF.succ (g := fun k => mailroomref07_Mail.j2 k a4 (b2 && a3) b0 b1 b2 b3 b4 b5 b6 v a0 x) (EvF.succ_some fun k => ?_) (fun k => ?_)
  ·generalize (b2 && a3) = q
   have hx1 : x.length < 4398046511104 := by omega
   have hx2 : ∀ p : S67, (x ++ [p]).length < 4398046511104 := by intro p; rw [List.length_append, List.length_singleton]; omega
   simp only [mailroomref07_Mail.j2]
   cases q <;> cases b3 <;> cases ha : a4.toList <;> simp [hx1, hx2]
   all_goals omega
  ·simp only [mailroomref07_Mail.j1]
   cases b2 <;> rfl
 cases b5 with
 | false =>
  refine EvF.succ (g := fun k => mailroomref07_Mail.j1 k a3 a4 b0 b1 b2 b3 b4 false b6 v a0 []) ?_ (fun k => by simp only [mailroomref07_Mail.j0]; rfl)
  have hk := key [] (by decide)
  have e : (mailRow false b2 b3 a3 n a4).map cv = (([] : List S67) ++ (if (b2 && a3) = true then [⟨⟨#[82, 69, 81, 85, 73, 82, 69, 84, 76, 83]⟩, ⟨#[]⟩⟩] else [])) ++ (if (b3 && (!a4.toList.isEmpty)) = true then [⟨⟨#[69, 78, 86, 73, 68]⟩, a4⟩] else []) := by
   unfold mailRow
   generalize (b2 && a3) = q
   generalize (b3 && (!a4.toList.isEmpty)) = r
   cases q <;> cases r <;> rfl
  rw [e]
  exact hk
 | true =>
  refine EvF.succ (g := fun k => (mailroomref02_Show.f k a2).bind fun t => mailroomref07_Mail.j1 k a3 a4 b0 b1 b2 b3 b4 true b6 v a0 [⟨⟨#[83, 73, 90, 69]⟩, t⟩]) (EvF.bind hS ?_) (fun k => by simp only [mailroomref07_Mail.j0]; rfl)
  have hk := key [⟨⟨#[83, 73, 90, 69]⟩, n⟩] (Nat.le_refl 1)
  have e : (mailRow true b2 b3 a3 n a4).map cv = (([⟨⟨#[83, 73, 90, 69]⟩, n⟩] : List S67) ++ (if (b2 && a3) = true then [⟨⟨#[82, 69, 81, 85, 73, 82, 69, 84, 76, 83]⟩, ⟨#[]⟩⟩] else [])) ++ (if (b3 && (!a4.toList.isEmpty)) = true then [⟨⟨#[69, 78, 86, 73, 68]⟩, a4⟩] else []) := by
   unfold mailRow
   generalize (b2 && a3) = q
   generalize (b3 && (!a4.toList.isEmpty)) = r
   cases q <;> cases r <;> rfl
  rw [e]
  exact hk
theorem mail07_ev (a0 : ByteArray) (b0 b1 b2 b3 b4 b5 : Bool) (b6 a2 : Int) (a3 : Bool) (a4 : ByteArray) (ha : a0.size ≤ 1000000) (h4 : a4.size ≤ 1000000) (h0 : -9223372036854775808 ≤ a2) (h1 : a2 ≤ 9223372036854775807) :
  EvF (fun k => mailroomref07_Mail.f k a0 b0 b1 b2 b3 b4 b5 b6 a2 a3 a4) (mailT a0 b2 b3 b5 a2 a3 a4) := by
 by_cases hneg : a2 < 0
 ·have e : mailT a0 b2 b3 b5 a2 a3 a4 = (0, ⟨#[]⟩, [], 4) := by unfold mailT mailR mailBad; simp [hneg]
  rw [e]
  exact (EvF.succ_some (f := fun k => mailroomref07_Mail.j0 k a2 a3 a4 true b0 b1 b2 b3 b4 b5 b6 3 a0) fun k => mail07_bad k _ _ _ _ _ _ _ _ _ _ _ _).congr fun k => by unfold mailroomref07_Mail.f; rw [if_pos hneg]
 ·refine EvF.congr (g := fun k => (mailroomref07_envid.f k a4).bind fun t241 => (if t241 = true then ((mailroomref07_May.f k 3 a0 ([] : List (S67))).bind fun t242 => (mailroomref07_Mail.j0 k a2 a3 a4 (!t242) b0 b1 b2 b3 b4 b5 b6 3 a0)) else (mailroomref07_Mail.j0 k a2 a3 a4 true b0 b1 b2 b3 b4 b5 b6 3 a0))) ?_ (fun k => by unfold mailroomref07_Mail.f; rw [if_neg hneg])
  refine EvF.bind (envid_ev a4 h4) ?_
  have hbad : mailBad a0 a2 a4 = (!(a4.data.toList.all idC && decide ((a4.size : Int) ≤ 32)) || !(decide (a0.data.toList = []) || (addrParse a0.data.toList).isSome)) := by
   unfold mailBad
   rw [show decide ((a4.size : Int) ≤ 32) = !decide (32 < (a4.size : Int)) from by rw [Bool.eq_iff_iff]; simp, decide_eq_false hneg]
   cases a4.data.toList.all idC <;> cases decide (32 < (a4.size : Int)) <;> rfl
  cases hid : (a4.data.toList.all idC && decide ((a4.size : Int) ≤ 32)) with
  | false =>
   have e : mailT a0 b2 b3 b5 a2 a3 a4 = (0, ⟨#[]⟩, [], 4) := by unfold mailT mailR; rw [hbad, hid]; rfl
   rw [e]
   exact (EvF.succ_some (f := fun k => mailroomref07_Mail.j0 k a2 a3 a4 true b0 b1 b2 b3 b4 b5 b6 3 a0) fun k => mail07_bad k _ _ _ _ _ _ _ _ _ _ _ _).congr fun k => rfl
  | true =>
   refine EvF.congr (g := fun k => ((mailroomref07_May.f k 3 a0 ([] : List (S67))).bind fun t242 => (mailroomref07_Mail.j0 k a2 a3 a4 (!t242) b0 b1 b2 b3 b4 b5 b6 3 a0))) ?_ (fun k => rfl)
   refine EvF.bind (may07_3 a0 ha) ?_
   cases hm : (decide (a0.data.toList = []) || (addrParse a0.data.toList).isSome) with
   | false =>
    have e : mailT a0 b2 b3 b5 a2 a3 a4 = (0, ⟨#[]⟩, [], 4) := by unfold mailT mailR; rw [hbad, hid, hm]; rfl
    rw [e]
    exact EvF.succ_some (f := fun k => mailroomref07_Mail.j0 k a2 a3 a4 true b0 b1 b2 b3 b4 b5 b6 3 a0) fun k => mail07_bad k _ _ _ _ _ _ _ _ _ _ _ _
   | true =>
    have e : mailT a0 b2 b3 b5 a2 a3 a4 = (3, a0, (mailRow b5 b2 b3 a3 ⟨(Lib.itoa a2).toArray⟩ a4).map cv, 0) := by unfold mailT mailR; rw [hbad, hid, hm]; rfl
    rw [e]
    exact mail07_row a2 a3 a4 b0 b1 b2 b3 b4 b5 b6 3 a0 (by omega) h1
end Go.Proofs.YtljkopbalejcgaaGreatDoor.P
end
section
set_option linter.unusedVariables false
set_option linter.unusedSimpArgs false
namespace Go.Proofs.YtljkopbalejcgaaGreatDoor.P
open Go Go.RowKit Go.Lib Go.Proofs.YtljkopbalejcgaaGreatDoorW.PrintWords
def wordsA : Array Value := #[.string ⟨#[]⟩, .string ⟨#[69, 72, 76, 79, 32]⟩, .string ⟨#[83, 84, 65, 82, 84, 84, 76, 83]⟩, .string ⟨#[77, 65, 73, 76, 32, 70, 82, 79, 77, 58]⟩, .string ⟨#[82, 67, 80, 84, 32, 84, 79, 58]⟩, .string ⟨#[68, 65, 84, 65]⟩, .string ⟨#[81, 85, 73, 84]⟩]
set_option maxHeartbeats 400000 in
theorem words_calls (w : World) : Calls Tryz.prog 32 #[] w fun e w' => e = .returned (.agg wordsA) ∧ Below w.heap.size w w' := by
 go_enter Tryz.func32, Tryz.ntmps32
 go_wp2
 exact bodyPost_ret (v := .agg wordsA) (by simp [results, Tryz.results32, go_sem, wordsA]) rfl ⟨rfl, below_alloc (Below.refl _ _) _⟩
def wordB (v : Int) : ByteArray := if v = 1 then ⟨#[69, 72, 76, 79, 32]⟩ else if v = 2 then ⟨#[83, 84, 65, 82, 84, 84, 76, 83]⟩ else if v = 3 then ⟨#[77, 65, 73, 76, 32, 70, 82, 79, 77, 58]⟩ else if v = 4 then ⟨#[82, 67, 80, 84, 32, 84, 79, 58]⟩ else if v = 5 then ⟨#[68, 65, 84, 65]⟩ else ⟨#[81, 85, 73, 84]⟩
theorem run_words (k : IntKind) (i : Nat) (hi : i < 7) (w : World) : (Instr.index 68 (.agg wordsA) (.int k i)).run Tryz.prog w = .ok (wordsA.getD i undef) w := by
 have h7 : i = 0 ∨ i = 1 ∨ i = 2 ∨ i = 3 ∨ i = 4 ∨ i = 5 ∨ i = 6 := by omega
 rcases h7 with rfl | rfl | rfl | rfl | rfl | rfl | rfl <;> simp [Instr.index, run_underlying Tryz.underlying68, asIntOf, go_sem, wordsA]
theorem run_wordB (k : IntKind) (v : Int) (hv : v = 1 ∨ v = 2 ∨ v = 3 ∨ v = 4 ∨ v = 5 ∨ v = 6) (w : World) : (Instr.index 68 (.agg wordsA) (.int k v)).run Tryz.prog w = .ok (.string (wordB v)) w := by
 rcases hv with rfl | rfl | rfl | rfl | rfl | rfl
 ·exact run_words k 1 (by decide) w
 ·exact run_words k 2 (by decide) w
 ·exact run_words k 3 (by decide) w
 ·exact run_words k 4 (by decide) w
 ·exact run_words k 5 (by decide) w
 ·exact run_words k 6 (by decide) w
theorem wordB_size (v : Int) : (wordB v).size ≤ 10 := by unfold wordB; repeat (split; decide); all_goals first | decide | skip
end Go.Proofs.YtljkopbalejcgaaGreatDoor.P
end
section
namespace Go.Proofs.YtljkopbalejcgaaGreatDoor.P
open Go.RowKit Go.Proofs.YtljkopbalejcgaaGreatDoorW.PrintWords Go.Proofs.YtljkopbalejcgaaGreatDoorW.PrintLast Go.Proofs.YtljkopbalejcgaaGreatDoorW.PrintMore
attribute [local go_sem] max2_int min2_int max_two min_two max_three min_three max_four min_four
set_option linter.unusedVariables false
set_option linter.unusedSimpArgs false
open Go Go.Lib
def showP (s : ByteArray) (p : S56) : ByteArray := if p.f1.toList.isEmpty = true then s ++ (⟨#[32]⟩ ++ p.f0) else (s ++ (⟨#[32]⟩ ++ p.f0)) ++ (⟨#[61]⟩ ++ p.f1)
theorem may_verb {v : Int} {a : ByteArray} {l : List S56} (h : cmd_May.f 1 v a l = some true) : v = 1 ∨ v = 2 ∨ v = 3 ∨ v = 4 ∨ v = 5 ∨ v = 6 := by
 unfold cmd_May.f cmd_May.j0 at h
 by_cases h1 : v = 1
 ·omega
 by_cases h2 : v = 2
 ·omega
 by_cases h5 : v = 5
 ·omega
 by_cases h6 : v = 6
 ·omega
 by_cases h3 : v = 3
 ·omega
 by_cases h4 : v = 4
 ·omega
 simp [h1, h2, h3, h4, h5, h6] at h
set_option maxHeartbeats 2000000 in
set_option maxRecDepth 100000 in
theorem show_yes (v : Int) (a : ByteArray) (A : Option Addr) (c : Nat) (l : List S56) (w : World) (hr : Kd.C k56 w A l.length l) (hc : l.length ≤ c) (hl : l.length ≤ 1000) (hsz : ∀ i, i < l.length → (l.getD i z56).f0.size ≤ 140737488351232 ∧ (l.getD i z56).f1.size ≤ 140737488351232)
  (ha : a.size ≤ 140737488351232) (hm : cmd_May.f 1 v a l = some true) (tl : ByteArray) (htl : tl.size ≤ 140737488351242) (h34 : (v = 3 ∨ v = 4) → addr_Path.f a = some tl) (hno : ¬ (v = 3 ∨ v = 4) → tl = a) (res : ByteArray) (hres : Hid (res = l.foldl showP (wordB v ++ tl)))
  (r1 : ByteArray) (r2 : Int) (HRES : Hid ((if 510 < (res.size : Int) then (⟨#[]⟩, 40) else (res, 0)) = (r1, r2))) :
  Calls Tryz.prog 14 #[.agg #[.int .u8 v, .string a, .slice A l.length c]] w fun e w' => e = .returned (.tuple #[.string r1, .int .i64 r2]) ∧ Below w.heap.size w w' := by
 have hv := may_verb hm
 have HR := Aside0.mk hr
 have HSZ := Aside0.mk hsz
 have HC := Aside0.mk hc
 have hcall : ∀ W, Below w.heap.size w W → Calls Tryz.prog 18 #[.agg #[.int .u8 v, .string a, .slice A l.length c]] W fun e w' => e = .returned (.bool true) ∧ Below W.heap.size W w' := fun W hb => cmd_May.calls 1 v a A c l true W (Kd.C_below hr hb) hc hm
 have HCALL := Aside0.mk hcall
 clear hr hsz hcall hc
 go_enter Tryz.func14, Tryz.ntmps14
 go_upto_region 3 with (go_at_call 18; refine (HCALL.out _ (below_alloc (Below.refl _ _) _)).mono ?_; rintro e w1 ⟨rfl, hb⟩; have hk := blk_below (heap_alloc_new w _) hb; have HK := Aside0.mk hk; have HB := Aside0.mk (below_step (below_alloc (Below.refl w.heap.size w) _) hb); have hc0 : w1.cell? ⟨w.heap.size, 0, none⟩ = some (.int .u8 v) := blk_cell hk 0; have hc1 : w1.cell? ⟨w.heap.size, 1, none⟩ = some (.string a) := blk_cell hk 1; clear hb hk)
 have hws := wordB_size v
 have hrw := fun k W => run_wordB k v hv W
 generalize wordB v = wb at hws hrw hres
 have q4 : ¬ 9223372036854775807 < wb.size + a.size := by omega
 go_cut [4] (fun v4 wx => v4 = .string (wb ++ a) ∧ Aside0 (wx.heap[w.heap.size]? = some (.cells #[.int .u8 v, .string a, .slice A l.length c] 27 (0, 0))) ∧ Aside0 (Below w.heap.size w wx))
 case first =>
  clear HRES hres HCALL
  go_region_held3 (fun W => W.cell? ⟨w.heap.size, 0, none⟩ = some (.int .u8 v) ∧ W.cell? ⟨w.heap.size, 1, none⟩ = some (.string a)) (first | exact ⟨hc0, hc1⟩ | exact ⟨hd0, hd1⟩) (first | (go_at_call 32; refine (words_calls _).mono ?_; rintro e w2 ⟨rfl, hb⟩; have hk := blk_below (w := w1.drew) HK.out hb; have HK2 := Aside0.mk hk; have HB2 := Aside0.mk (below_step (below_drew1 HB.out) hb); have hd0 : w2.cell? ⟨w.heap.size, 0, none⟩ = some (.int .u8 v) := blk_cell hk 0; have hd1 : w2.cell? ⟨w.heap.size, 1, none⟩ = some (.string a) := blk_cell hk 1; clear hb hk))
  try go_wp2
  go_meet
  case rel => exact ⟨rfl, HK2, HB2⟩
 case rest =>
  obtain ⟨rfl, HK3, HB3⟩ := hcut
  have hc0 : wc.cell? ⟨w.heap.size, 0, none⟩ = some (.int .u8 v) := blk_cell HK3.out 0
  have hc1 : wc.cell? ⟨w.heap.size, 1, none⟩ = some (.string a) := blk_cell HK3.out 1
  have q5 : ¬ 9223372036854775807 < wb.size + tl.size := by omega
  go_upto_region 4 with fail
  go_cut [24] (fun v24 wx => v24 = .bool (decide (v = 3 ∨ v = 4)) ∧ wx = wc)
  case first =>
   clear HRES hres HCALL
   by_cases h3 : v = 3
   ·have h3b : (v == 3) = true := by rw [h3]; rfl
    have hd : decide (v = 3 ∨ v = 4) = true := decide_eq_true (.inl h3)
    clear h3
    go_wp2
    go_meet
    case rel => exact ⟨by rw [hd], rfl⟩
   ·have h3b : (v == 3) = false := beq_eq_false_iff_ne.2 h3
    have hd : decide (v = 3 ∨ v = 4) = (v == 4) := by rw [Bool.eq_iff_iff]; simp [h3]
    clear h3
    go_wp2
    go_meet
    case rel => exact ⟨by rw [hd], rfl⟩
  case rest =>
   obtain ⟨rfl, rfl⟩ := hcut
   go_upto_if 24 with fail
   go_cut [4] (fun v4 wx => v4 = .string (wb ++ tl) ∧ Aside0 (wx.heap[w.heap.size]? = some (.cells #[.int .u8 v, .string a, .slice A l.length c] 27 (0, 0))) ∧ Aside0 (Below w.heap.size w wx))
   case first =>
    clear HRES hres HCALL
    by_cases h : v = 3 ∨ v = 4
    ·have hp := h34 h
     rw [decide_eq_true h]
     clear hno h34
     go_upto_region 5 with fail
     go_region_held3 (fun W => W.cell? ⟨w.heap.size, 0, none⟩ = some (.int .u8 v) ∧ W.cell? ⟨w.heap.size, 1, none⟩ = some (.string a)) (first | exact ⟨hc0, hc1⟩ | exact ⟨hd0, hd1⟩ | exact ⟨he0, he1⟩) (first
      | (go_at_call 32; refine (words_calls _).mono ?_; rintro e w2 ⟨rfl, hb⟩; have hk := blk_below (w := World.drew _) HK3.out hb; have HK2 := Aside0.mk hk; have HB2 := Aside0.mk (below_step (below_drew1 HB3.out) hb); have hd0 : w2.cell? ⟨w.heap.size, 0, none⟩ = some (.int .u8 v) := blk_cell hk 0; have hd1 : w2.cell? ⟨w.heap.size, 1, none⟩ = some (.string a) := blk_cell hk 1; clear hb hk)
      | (go_at_call 33; refine (addr_Path.calls a tl _ hp).mono ?_; rintro e w3 ⟨rfl, hb⟩; have hk := blk_below HK2.out hb; have HK4 := Aside0.mk hk; have HB4 := Aside0.mk (below_step HB2.out hb); have he0 : w3.cell? ⟨w.heap.size, 0, none⟩ = some (.int .u8 v) := blk_cell hk 0; have he1 : w3.cell? ⟨w.heap.size, 1, none⟩ = some (.string a) := blk_cell hk 1; clear hb hk))
     all_goals (try go_wp2); (try go_meet); exact ⟨rfl, HK4, HB4⟩
    ·have e := hno h
     rw [decide_eq_false h]
     go_wp2
     go_meet
     case rel => exact ⟨by rw [e], HK3, HB3⟩
   case rest =>
    clear hno h34 hc0 hc1 hrw q5 HK3 HB3
    obtain ⟨rfl, HK5, HB5⟩ := hcut
    have hk2 : wc.cell? ⟨w.heap.size, 2, none⟩ = some (.slice A l.length c) := blk_cell HK5.out 2
    have hs0 : (wb ++ tl).size ≤ 281474976710656 := by rw [ByteArray.size_append]; omega
    generalize wb ++ tl = s0 at hres hs0
    go_wp2
    go_loopg [4, 36] l.length (fun gk v4 v36 wr => ∃ (k : Nat) (s : ByteArray), k ≤ l.length ∧ l.length - k ≤ gk ∧ v4 = .string s ∧ v36 = .int .i64 k ∧ Aside0 (res = (l.drop k).foldl showP s) ∧ Aside0 (s.size ≤ 281474976710656 + k * 562949953421312) ∧ Aside0 (Below w.heap.size w wr))
    case atStart => exact ⟨0, s0, by omega, by omega, rfl, rfl, ⟨hres⟩, ⟨by omega⟩, HB5⟩
    case round =>
     obtain ⟨k, s, hk, hg, rfl, rfl, HF, HS, HB⟩ := hrel
     by_cases hlt : k < l.length
     ·have hltz : (k : Int) < (l.length : Int) := by omega
      obtain ⟨ad, rfl, hc0, hc1⟩ := at_T56 (Kd.C_below HR.out HB.out) k (by omega) hltz
      rw [show rd_T56 l (k : Int) = l.getD k z56 from by unfold rd_T56; rw [Int.toNat_natCast]] at hc0 hc1
      rw [Int.toNat_natCast] at hc0 hc1
      obtain ⟨z1, z2⟩ := HSZ.out k hlt
      have hd : l.drop k = l.getD k z56 :: l.drop (k + 1) := by rw [List.drop_eq_getElem_cons hlt, List.getD_eq_getElem?_getD, List.getElem?_eq_getElem hlt]; rfl
      have hF : res = (l.drop (k + 1)).foldl showP (showP s (l.getD k z56)) := by rw [HF.out, hd]; rfl
      have HF2 := Lib.hid hF
      have hS := HS.out
      clear hF hd HF HS
      have hsp : ∀ p : S56, p = l.getD k z56 → showP s p = if p.f1.toList.isEmpty = true then s ++ (⟨#[32]⟩ ++ p.f0) else (s ++ (⟨#[32]⟩ ++ p.f0)) ++ (⟨#[61]⟩ ++ p.f1) := fun p _ => rfl
      have hsp := Lib.hid (hsp _ rfl)
      generalize (l.getD k z56).f0 = nk at hc0 z1 hsp
      generalize (l.getD k z56).f1 = vk at hc1 z2 hsp
      have q1 : ¬ 9223372036854775807 < 1 + nk.size := by omega
      have q2 : ¬ 9223372036854775807 < s.size + (1 + nk.size) := by omega
      have q3 : ¬ 9223372036854775807 < 1 + vk.size := by omega
      have q4 : ¬ 9223372036854775807 < s.size + (1 + nk.size) + (1 + vk.size) := by omega
      cases hv0 : vk.toList.isEmpty with
      | true =>
       have HE : Aside0 (showP s (l.getD k z56) = s ++ (⟨#[32]⟩ ++ nk)) := ⟨by rw [hsp, if_pos hv0]⟩
       have HZ : Aside0 ((s ++ ((⟨#[32]⟩ : ByteArray) ++ nk)).size = s.size + (1 + nk.size)) := ⟨by rw [ByteArray.size_append, ByteArray.size_append]; rfl⟩
       clear hsp
       go_wp2
       go_roundg (l.length - (k + 1))
       case measure => omega
       case rel => exact ⟨k + 1, _, by omega, by omega, rfl, by go_num, ⟨by rw [HF2.out, HE.out]⟩, ⟨by rw [HZ.out]; omega⟩, ⟨by repeat (first | exact HB.out | apply below_alloc)⟩⟩
      | false =>
       have HE : Aside0 (showP s (l.getD k z56) = (s ++ (⟨#[32]⟩ ++ nk)) ++ (⟨#[61]⟩ ++ vk)) := ⟨by rw [hsp, hv0]; rfl⟩
       have HZ : Aside0 (((s ++ ((⟨#[32]⟩ : ByteArray) ++ nk)) ++ ((⟨#[61]⟩ : ByteArray) ++ vk)).size = s.size + (1 + nk.size) + (1 + vk.size)) := ⟨by simp only [ByteArray.size_append]; rfl⟩
       clear hsp
       go_wp2
       go_roundg (l.length - (k + 1))
       case measure => omega
       case rel => exact ⟨k + 1, _, by omega, by omega, rfl, by go_num, ⟨by rw [HF2.out, HE.out]⟩, ⟨by rw [HZ.out]; omega⟩, ⟨by repeat (first | exact HB.out | apply below_alloc)⟩⟩
     ·have hltz : ¬ (k : Int) < (l.length : Int) := by omega
      have he : k = l.length := by omega
      have hF : s = res := by rw [HF.out, he, List.drop_of_length_le (Nat.le_refl _)]; rfl
      subst hF
      clear HF he
      cases h510 : decide (510 < (s.size : Int)) with
      | true =>
       have HE : Aside0 ((⟨#[]⟩ : ByteArray) = r1 ∧ (40 : Int) = r2) := ⟨by have h := HRES; rw [if_pos (of_decide_eq_true h510)] at h; simpa [Hid] using h⟩
       go_wp2
       go_ret2
       exact ⟨by obtain ⟨rfl, rfl⟩ := HE.out; rfl, HB.out⟩
      | false =>
       have HE : Aside0 (s = r1 ∧ (0 : Int) = r2) := ⟨by have h := HRES; rw [if_neg (of_decide_eq_false h510)] at h; simpa [Hid] using h⟩
       go_wp2
       go_ret2
       exact ⟨by obtain ⟨rfl, rfl⟩ := HE.out; rfl, HB.out⟩
set_option maxHeartbeats 1000000 in
theorem show_no (v : Int) (a : ByteArray) (A : Option Addr) (c : Nat) (l : List S56) (w : World) (hr : Kd.C k56 w A l.length l) (hc : l.length ≤ c) (hm : cmd_May.f 1 v a l = some false) :
  Calls Tryz.prog 14 #[.agg #[.int .u8 v, .string a, .slice A l.length c]] w fun e w' => e = .returned (.tuple #[.string ⟨#[]⟩, .int .i64 4]) ∧ Below w.heap.size w w' := by
 have hcall : ∀ W, Below w.heap.size w W → Calls Tryz.prog 18 #[.agg #[.int .u8 v, .string a, .slice A l.length c]] W fun e w' => e = .returned (.bool false) ∧ Below W.heap.size W w' := fun W hb => cmd_May.calls 1 v a A c l false W (Kd.C_below hr hb) hc hm
 have HCALL := Aside0.mk hcall
 clear hr hcall hc
 go_enter Tryz.func14, Tryz.ntmps14
 go_wp2_with (go_at_call 18; refine (HCALL.out _ (below_alloc (Below.refl _ _) _)).mono ?_; rintro e w1 ⟨rfl, hb⟩; have HB := Aside0.mk (below_step (below_alloc (Below.refl w.heap.size w) _) hb); clear hb)
 go_ret2
 exact ⟨rfl, HB.out⟩
def cmd_Show.f (a0_0 : Int) (a0_1 : ByteArray) (l0_2 : List S56) : Option (ByteArray × Int) :=
 if l0_2.length ≤ 1000 ∧ plSmall l0_2 = true ∧ a0_1.size ≤ 140737488351232 then
  (cmd_May.f 1 a0_0 a0_1 l0_2).bind fun m => if m = true then
   (if a0_0 = 3 ∨ a0_0 = 4 then addr_Path.f a0_1 else some a0_1).bind fun tl => if tl.size ≤ 140737488351242 then some (if 510 < ((l0_2.foldl showP (wordB a0_0 ++ tl)).size : Int) then (⟨#[]⟩, 40) else (l0_2.foldl showP (wordB a0_0 ++ tl), 0)) else none
  else some (⟨#[]⟩, 4)
 else none
theorem cmd_Show.calls (a0_0 : Int) (a0_1 : ByteArray) (A0_2 : Option Addr) (c0_2 : Nat) (l0_2 : List S56) (r1 : ByteArray) (r2 : Int) (w : World) (hr0_2 : Kd.C k56 w A0_2 l0_2.length l0_2) (hc0_2 : l0_2.length ≤ c0_2) (h : cmd_Show.f a0_0 a0_1 l0_2 = some (r1, r2)) :
  Calls Tryz.prog 14 #[.agg #[.int .u8 a0_0, .string a0_1, .slice A0_2 l0_2.length c0_2]] w fun e w' => e = .returned (.tuple #[.string r1, .int .i64 r2]) ∧ Below w.heap.size w w' := by
 unfold cmd_Show.f at h
 split at h
 ·rename_i hs
  obtain ⟨m, hm, h⟩ := Option.bind_eq_some_iff.1 h
  cases m with
  | false =>
   rw [if_neg (by simp)] at h
   obtain ⟨rfl, rfl⟩ := Prod.mk.inj (Option.some.inj h)
   exact show_no a0_0 a0_1 A0_2 c0_2 l0_2 w hr0_2 hc0_2 hm
  | true =>
   rw [if_pos rfl] at h
   obtain ⟨tl, htl, h⟩ := Option.bind_eq_some_iff.1 h
   by_cases ht : tl.size ≤ 140737488351242
   ·rw [if_pos ht] at h
    exact show_yes a0_0 a0_1 A0_2 c0_2 l0_2 w hr0_2 hc0_2 hs.1 (plSmall_at hs.2.1) hs.2.2 hm tl ht (fun h34 => by rw [if_pos h34] at htl; exact htl) (fun h34 => by rw [if_neg h34] at htl; exact (Option.some.inj htl).symm) _ rfl r1 r2 (Option.some.inj h)
   ·rw [if_neg ht] at h; cases h
 ·cases h
end Go.Proofs.YtljkopbalejcgaaGreatDoor.P
end
section
namespace Go.Proofs.YtljkopbalejcgaaGreatDoor.P
open Go.RowKit Go.Proofs.YtljkopbalejcgaaGreatDoorW.PrintWords Go.Proofs.YtljkopbalejcgaaGreatDoorW.PrintLast Go.Proofs.YtljkopbalejcgaaGreatDoorW.PrintMore
attribute [local go_sem] max2_int min2_int max_two min_two max_three min_three max_four min_four
set_option linter.unusedVariables false
set_option linter.unusedSimpArgs false
def mailroomlaw07_shown.f (a0_0 : Int) (a0_1 : ByteArray) (l0_2 : List (S56)) (a1 : Int) : Option (ByteArray) := (cmd_Show.f a0_0 a0_1 l0_2).bind fun bt133 => (if a1 = 0 then (if bt133.2 = 0 then (some bt133.1) else (some (⟨#[]⟩ : ByteArray))) else (some (⟨#[]⟩ : ByteArray)))
set_option maxHeartbeats 8000000 in
set_option maxRecDepth 100000 in
theorem mailroomlaw07_shown.calls (a0_0 : Int) (a0_1 : ByteArray) (A0_2 : Option Addr) (c0_2 : Nat) (l0_2 : List (S56)) (a1 : Int) (r : ByteArray) (w : World) (hr0_2 : Kd.C k56 w A0_2 l0_2.length l0_2) (hc0_2 : l0_2.length ≤ c0_2) (h : mailroomlaw07_shown.f a0_0 a0_1 l0_2 a1 = some r) :
  Calls Tryz.prog 23 #[.agg #[.int .u8 a0_0, .string a0_1, .slice A0_2 l0_2.length c0_2], .int .i64 a1] w fun e w' => e = .returned (.string r) ∧ Below w.heap.size w w' := by
 have hu27 := Tryz.underlying27
 have HR0_2 := Aside0.mk hr0_2
 have HC0_2 := Aside0.mk hc0_2
 clear hr0_2 hc0_2
 have HB := Aside0.mk (Below.refl w.heap.size w)
 have H : ((cmd_Show.f a0_0 a0_1 l0_2).bind fun bt133 => (if a1 = 0 then (if bt133.2 = 0 then (some bt133.1) else (some (⟨#[]⟩ : ByteArray))) else (some (⟨#[]⟩ : ByteArray)))) = some r := h
 clear h
 replace H := Option.bind_eq_some_iff.mp H
 obtain ⟨⟨t133, t134⟩, A30, H⟩ := H
 replace H : (if a1 = 0 then (if t134 = 0 then (some t133) else (some (⟨#[]⟩ : ByteArray))) else (some (⟨#[]⟩ : ByteArray))) = some r := H
 have A3 := Aside0.mk A30
 clear A30
 by_cases c4 : a1 = 0
 ·rw [if_pos c4] at H
  have c4b0 : (a1 == 0) = true := beq_iff_eq.mpr c4
  have c4b1 : (a1 != 0) = false := bne_eq_false_iff_eq.mpr c4
  clear c4
  by_cases c5 : t134 = 0
  ·rw [if_pos c5] at H
   have c5b0 : (t134 == 0) = true := beq_iff_eq.mpr c5
   have c5b1 : (t134 != 0) = false := bne_eq_false_iff_eq.mpr c5
   clear c5
   obtain rfl := Option.some.inj H
   go_enter Tryz.func23, Tryz.ntmps23
   go_wp2_with (first | ((with_reducible refine gate_dst (N := 2) rfl ?_); refine box_event ?hg (N := 2) ?hd (cs := #[.int .u8 a0_0, .string a0_1, .slice A0_2 l0_2.length c0_2]) (t := 27) ?hr ?_; (case hd => rfl); (case hg => rfl); (case hr => first | (go_simp; done) | (go_simp; rfl)); intro gb132 hg w6 hbox hb; have n0_ := Aside0.mk (below_step (by repeat (first | (with_reducible first | exact HB.out | apply below_alloc | apply pw_below_drewN | apply below_drew1) | exact HB.out)) hb); have n1_ := Aside0.mk (hbox); have n2_ := Aside0.mk ((by rw [hg]; exact (below_size (by repeat (first | (with_reducible first | exact HB.out | apply below_alloc | apply pw_below_drewN | apply below_drew1) | exact HB.out))) : w.heap.size ≤ gb132)); have n3_ := Aside0.mk ((by rw [hg]; exact (below_size (by repeat (first | (with_reducible first | exact HB.out | apply below_alloc | apply pw_below_drewN | apply below_drew1) | exact HB.out))) : w.heap.size ≤ gb132)); clear HB; have HB := n0_; have BK132 := n1_; have GW132 := n2_; have GE132 := n3_; clear n0_ n1_ n2_ n3_; clear hb hbox hg; have hcz7_0 : w6.cell? ⟨gb132, 0, none⟩ = some (.int .u8 a0_0) := (blk_cell BK132.out 0).trans rfl; have hcz7_1 : w6.cell? ⟨gb132, 1, none⟩ = some (.string a0_1) := (blk_cell BK132.out 1).trans rfl; have hcz7_2 : w6.cell? ⟨gb132, 2, none⟩ = some (.slice A0_2 l0_2.length c0_2) := (blk_cell BK132.out 2).trans rfl; have hfz7_0 := blk_frozen BK132.out 0; have hfz7_1 := blk_frozen BK132.out 1; have hfz7_2 := blk_frozen BK132.out 2) | ((with_reducible refine gate_callee (f := 14) rfl ?_); refine goesL_ (some 9) rfl rfl Tryz.func14 (by kernel_rfl) rfl #[.agg #[.int .u8 a0_0, .string a0_1, .slice A0_2 l0_2.length c0_2]] rfl (by (try simp only [List.map_toArray, List.map_cons, List.map_nil]); first | done | rfl | (simp only [List.length_drop, List.length_take]; rfl)) ?_; (with_reducible refine (cmd_Show.calls a0_0 a0_1 _ _ l0_2 t133 t134 _ ?side1 ?side2 A3.out).mono ?_); (case side1 => repeat (first | exact (Kd.C_below HR0_2.out HB.out) | (with_reducible refine Kd.C_alloc ?_ _) | (with_reducible refine Kd.C_drewN ?_ _) | (with_reducible refine Kd.C_drew ?_))); (case side2 => exact HC0_2.out); rintro e w8 ⟨rfl, hb⟩; refine ⟨_, rfl, ?_⟩; have n0_ := Aside0.mk (blk_below (g := gb132) (o := .cells #[.int .u8 a0_0, .string a0_1, .slice A0_2 l0_2.length c0_2] 27 (0, 0)) (by (with_reducible repeat (first | refine blk_drewN ?_ _ | refine blk_drew ?_ | refine blk_alloc ?_ _)); exact BK132.out) hb); have n1_ := Aside0.mk (below_step (by repeat (first | (with_reducible first | exact HB.out | apply below_alloc | apply pw_below_drewN | apply below_drew1 | refine below_set ?_ GE132.out) | exact HB.out)) hb); clear BK132; clear HB; have BK132 := n0_; have HB := n1_; clear n0_ n1_; (try clear hb); (try clear hb2); (try clear hk); (try clear hi)))
   go_ret
   exact ⟨by first | rfl | (simp [errW_none, errW_some] <;> rfl) | (simp [*, errW_none, errW_some] <;> rfl), by repeat (first | (with_reducible first | exact HB.out | apply below_alloc | apply pw_below_drewN | apply below_drew1 | refine below_set ?_ GE132.out) | exact HB.out)⟩
  ·rw [if_neg c5] at H
   have c5b0 : (t134 == 0) = false := beq_eq_false_iff_ne.mpr c5
   have c5b1 : (t134 != 0) = true := bne_iff_ne.mpr c5
   obtain rfl := Option.some.inj H
   go_enter Tryz.func23, Tryz.ntmps23
   go_wp2_with (first | ((with_reducible refine gate_dst (N := 2) rfl ?_); refine box_event ?hg (N := 2) ?hd (cs := #[.int .u8 a0_0, .string a0_1, .slice A0_2 l0_2.length c0_2]) (t := 27) ?hr ?_; (case hd => rfl); (case hg => rfl); (case hr => first | (go_simp; done) | (go_simp; rfl)); intro gb132 hg w9 hbox hb; have n0_ := Aside0.mk (below_step (by repeat (first | (with_reducible first | exact HB.out | apply below_alloc | apply pw_below_drewN | apply below_drew1) | exact HB.out)) hb); have n1_ := Aside0.mk (hbox); have n2_ := Aside0.mk ((by rw [hg]; exact (below_size (by repeat (first | (with_reducible first | exact HB.out | apply below_alloc | apply pw_below_drewN | apply below_drew1) | exact HB.out))) : w.heap.size ≤ gb132)); have n3_ := Aside0.mk ((by rw [hg]; exact (below_size (by repeat (first | (with_reducible first | exact HB.out | apply below_alloc | apply pw_below_drewN | apply below_drew1) | exact HB.out))) : w.heap.size ≤ gb132)); clear HB; have HB := n0_; have BK132 := n1_; have GW132 := n2_; have GE132 := n3_; clear n0_ n1_ n2_ n3_; clear hb hbox hg; have hcz10_0 : w9.cell? ⟨gb132, 0, none⟩ = some (.int .u8 a0_0) := (blk_cell BK132.out 0).trans rfl; have hcz10_1 : w9.cell? ⟨gb132, 1, none⟩ = some (.string a0_1) := (blk_cell BK132.out 1).trans rfl; have hcz10_2 : w9.cell? ⟨gb132, 2, none⟩ = some (.slice A0_2 l0_2.length c0_2) := (blk_cell BK132.out 2).trans rfl; have hfz10_0 := blk_frozen BK132.out 0; have hfz10_1 := blk_frozen BK132.out 1; have hfz10_2 := blk_frozen BK132.out 2) | ((with_reducible refine gate_callee (f := 14) rfl ?_); refine goesL_ (some 9) rfl rfl Tryz.func14 (by kernel_rfl) rfl #[.agg #[.int .u8 a0_0, .string a0_1, .slice A0_2 l0_2.length c0_2]] rfl (by (try simp only [List.map_toArray, List.map_cons, List.map_nil]); first | done | rfl | (simp only [List.length_drop, List.length_take]; rfl)) ?_; (with_reducible refine (cmd_Show.calls a0_0 a0_1 _ _ l0_2 t133 t134 _ ?side1 ?side2 A3.out).mono ?_); (case side1 => repeat (first | exact (Kd.C_below HR0_2.out HB.out) | (with_reducible refine Kd.C_alloc ?_ _) | (with_reducible refine Kd.C_drewN ?_ _) | (with_reducible refine Kd.C_drew ?_))); (case side2 => exact HC0_2.out); rintro e w11 ⟨rfl, hb⟩; refine ⟨_, rfl, ?_⟩; have n0_ := Aside0.mk (blk_below (g := gb132) (o := .cells #[.int .u8 a0_0, .string a0_1, .slice A0_2 l0_2.length c0_2] 27 (0, 0)) (by (with_reducible repeat (first | refine blk_drewN ?_ _ | refine blk_drew ?_ | refine blk_alloc ?_ _)); exact BK132.out) hb); have n1_ := Aside0.mk (below_step (by repeat (first | (with_reducible first | exact HB.out | apply below_alloc | apply pw_below_drewN | apply below_drew1 | refine below_set ?_ GE132.out) | exact HB.out)) hb); clear BK132; clear HB; have BK132 := n0_; have HB := n1_; clear n0_ n1_; (try clear hb); (try clear hb2); (try clear hk); (try clear hi)))
   go_ret
   exact ⟨by first | rfl | (simp [errW_none, errW_some] <;> rfl) | (simp [*, errW_none, errW_some] <;> rfl), by repeat (first | (with_reducible first | exact HB.out | apply below_alloc | apply pw_below_drewN | apply below_drew1 | refine below_set ?_ GE132.out) | exact HB.out)⟩
 ·rw [if_neg c4] at H
  have c4b0 : (a1 == 0) = false := beq_eq_false_iff_ne.mpr c4
  have c4b1 : (a1 != 0) = true := bne_iff_ne.mpr c4
  obtain rfl := Option.some.inj H
  go_enter Tryz.func23, Tryz.ntmps23
  go_wp2_with (first | ((with_reducible refine gate_dst (N := 2) rfl ?_); refine box_event ?hg (N := 2) ?hd (cs := #[.int .u8 a0_0, .string a0_1, .slice A0_2 l0_2.length c0_2]) (t := 27) ?hr ?_; (case hd => rfl); (case hg => rfl); (case hr => first | (go_simp; done) | (go_simp; rfl)); intro gb132 hg w12 hbox hb; have n0_ := Aside0.mk (below_step (by repeat (first | (with_reducible first | exact HB.out | apply below_alloc | apply pw_below_drewN | apply below_drew1) | exact HB.out)) hb); have n1_ := Aside0.mk (hbox); have n2_ := Aside0.mk ((by rw [hg]; exact (below_size (by repeat (first | (with_reducible first | exact HB.out | apply below_alloc | apply pw_below_drewN | apply below_drew1) | exact HB.out))) : w.heap.size ≤ gb132)); have n3_ := Aside0.mk ((by rw [hg]; exact (below_size (by repeat (first | (with_reducible first | exact HB.out | apply below_alloc | apply pw_below_drewN | apply below_drew1) | exact HB.out))) : w.heap.size ≤ gb132)); clear HB; have HB := n0_; have BK132 := n1_; have GW132 := n2_; have GE132 := n3_; clear n0_ n1_ n2_ n3_; clear hb hbox hg; have hcz13_0 : w12.cell? ⟨gb132, 0, none⟩ = some (.int .u8 a0_0) := (blk_cell BK132.out 0).trans rfl; have hcz13_1 : w12.cell? ⟨gb132, 1, none⟩ = some (.string a0_1) := (blk_cell BK132.out 1).trans rfl; have hcz13_2 : w12.cell? ⟨gb132, 2, none⟩ = some (.slice A0_2 l0_2.length c0_2) := (blk_cell BK132.out 2).trans rfl; have hfz13_0 := blk_frozen BK132.out 0; have hfz13_1 := blk_frozen BK132.out 1; have hfz13_2 := blk_frozen BK132.out 2) | ((with_reducible refine gate_callee (f := 14) rfl ?_); refine goesL_ (some 9) rfl rfl Tryz.func14 (by kernel_rfl) rfl #[.agg #[.int .u8 a0_0, .string a0_1, .slice A0_2 l0_2.length c0_2]] rfl (by (try simp only [List.map_toArray, List.map_cons, List.map_nil]); first | done | rfl | (simp only [List.length_drop, List.length_take]; rfl)) ?_; (with_reducible refine (cmd_Show.calls a0_0 a0_1 _ _ l0_2 t133 t134 _ ?side1 ?side2 A3.out).mono ?_); (case side1 => repeat (first | exact (Kd.C_below HR0_2.out HB.out) | (with_reducible refine Kd.C_alloc ?_ _) | (with_reducible refine Kd.C_drewN ?_ _) | (with_reducible refine Kd.C_drew ?_))); (case side2 => exact HC0_2.out); rintro e w14 ⟨rfl, hb⟩; refine ⟨_, rfl, ?_⟩; have n0_ := Aside0.mk (blk_below (g := gb132) (o := .cells #[.int .u8 a0_0, .string a0_1, .slice A0_2 l0_2.length c0_2] 27 (0, 0)) (by (with_reducible repeat (first | refine blk_drewN ?_ _ | refine blk_drew ?_ | refine blk_alloc ?_ _)); exact BK132.out) hb); have n1_ := Aside0.mk (below_step (by repeat (first | (with_reducible first | exact HB.out | apply below_alloc | apply pw_below_drewN | apply below_drew1 | refine below_set ?_ GE132.out) | exact HB.out)) hb); clear BK132; clear HB; have BK132 := n0_; have HB := n1_; clear n0_ n1_; (try clear hb); (try clear hb2); (try clear hk); (try clear hi)))
  go_ret
  exact ⟨by first | rfl | (simp [errW_none, errW_some] <;> rfl) | (simp [*, errW_none, errW_some] <;> rfl), by repeat (first | (with_reducible first | exact HB.out | apply below_alloc | apply pw_below_drewN | apply below_drew1 | refine below_set ?_ GE132.out) | exact HB.out)⟩
end Go.Proofs.YtljkopbalejcgaaGreatDoor.P
end
section
namespace Go.Proofs.YtljkopbalejcgaaGreatDoor.P
open Go.RowKit Go.Proofs.YtljkopbalejcgaaGreatDoorW.PrintWords Go.Proofs.YtljkopbalejcgaaGreatDoorW.PrintLast Go.Proofs.YtljkopbalejcgaaGreatDoorW.PrintMore
attribute [local go_sem] max2_int min2_int max_two min_two max_three min_three max_four min_four
set_option linter.unusedVariables false
set_option linter.unusedSimpArgs false
def mailroomlaw07_all.f  : Option (Bool × Bool × Bool × Bool × Bool × Bool × Int) := some (true, true, true, true, true, true, 9999)
set_option maxHeartbeats 8000000 in
set_option maxRecDepth 100000 in
theorem mailroomlaw07_all.calls  (r1 : Bool) (r2 : Bool) (r3 : Bool) (r4 : Bool) (r5 : Bool) (r6 : Bool) (r7 : Int) (w : World) (h : mailroomlaw07_all.f  = some (r1, r2, r3, r4, r5, r6, r7)) :
  Calls Tryz.prog 24 #[] w fun e w' => e = .returned (.agg #[.bool r1, .bool r2, .bool r3, .bool r4, .bool r5, .bool r6, .int .i64 r7]) ∧ Below w.heap.size w w' := by
 have hu23 := Tryz.underlying23
 have HB := Aside0.mk (Below.refl w.heap.size w)
 have H : (some (true, true, true, true, true, true, 9999)) = some (r1, r2, r3, r4, r5, r6, r7) := h
 clear h
 simp only [Option.some.injEq, Prod.mk.injEq] at H
 obtain ⟨rfl, rfl, rfl, rfl, rfl, rfl, rfl⟩ := H
 go_enter Tryz.func24, Tryz.ntmps24
 go_wp2_with (first | ((with_reducible refine gate_dst (N := 0) rfl ?_); refine box_event ?hg (N := 0) ?hd (cs := #[.bool false, .bool false, .bool false, .bool false, .bool false, .bool false, .int .i64 0]) (t := 23) ?hr ?_; (case hd => rfl); (case hg => rfl); (case hr => first | (go_simp; done) | (go_simp; rfl)); intro gb135 hg w1 hbox hb; have n0_ := Aside0.mk (below_step (by repeat (first | (with_reducible first | exact HB.out | apply below_alloc | apply pw_below_drewN | apply below_drew1) | exact HB.out)) hb); have n1_ := Aside0.mk (hbox); have n2_ := Aside0.mk ((by rw [hg]; exact (below_size (by repeat (first | (with_reducible first | exact HB.out | apply below_alloc | apply pw_below_drewN | apply below_drew1) | exact HB.out))) : w.heap.size ≤ gb135)); have n3_ := Aside0.mk ((by rw [hg]; exact (below_size (by repeat (first | (with_reducible first | exact HB.out | apply below_alloc | apply pw_below_drewN | apply below_drew1) | exact HB.out))) : w.heap.size ≤ gb135)); clear HB; have HB := n0_; have BK135 := n1_; have GW135 := n2_; have GE135 := n3_; clear n0_ n1_ n2_ n3_; clear hb hbox hg; have hcz2_0 : w1.cell? ⟨gb135, 0, none⟩ = some (.bool false) := (blk_cell BK135.out 0).trans rfl; have hcz2_1 : w1.cell? ⟨gb135, 1, none⟩ = some (.bool false) := (blk_cell BK135.out 1).trans rfl; have hcz2_2 : w1.cell? ⟨gb135, 2, none⟩ = some (.bool false) := (blk_cell BK135.out 2).trans rfl; have hcz2_3 : w1.cell? ⟨gb135, 3, none⟩ = some (.bool false) := (blk_cell BK135.out 3).trans rfl; have hcz2_4 : w1.cell? ⟨gb135, 4, none⟩ = some (.bool false) := (blk_cell BK135.out 4).trans rfl; have hcz2_5 : w1.cell? ⟨gb135, 5, none⟩ = some (.bool false) := (blk_cell BK135.out 5).trans rfl; have hcz2_6 : w1.cell? ⟨gb135, 6, none⟩ = some (.int .i64 0) := (blk_cell BK135.out 6).trans rfl; have hfz2_0 := blk_frozen BK135.out 0; have hfz2_1 := blk_frozen BK135.out 1; have hfz2_2 := blk_frozen BK135.out 2; have hfz2_3 := blk_frozen BK135.out 3; have hfz2_4 := blk_frozen BK135.out 4; have hfz2_5 := blk_frozen BK135.out 5; have hfz2_6 := blk_frozen BK135.out 6))
 refine bodyPost_ret (results_cell_row rfl _ _ gb135 23 #[.bool true, .bool true, .bool true, .bool true, .bool true, .bool true, .int .i64 9999] (0, 0) _ rfl (by (with_reducible repeat (first | refine blk_drewN ?_ _ | refine blk_drew ?_ | refine blk_alloc ?_ _)); refine blk_put (cs := #[.bool true, .bool true, .bool true, .bool true, .bool true, .bool true, .int .i64 0]) ?_ 6 _ rfl; (with_reducible repeat (first | refine blk_drewN ?_ _ | refine blk_drew ?_ | refine blk_alloc ?_ _)); refine blk_put (cs := #[.bool true, .bool true, .bool true, .bool true, .bool true, .bool false, .int .i64 0]) ?_ 5 _ rfl; (with_reducible repeat (first | refine blk_drewN ?_ _ | refine blk_drew ?_ | refine blk_alloc ?_ _)); refine blk_put (cs := #[.bool true, .bool true, .bool true, .bool true, .bool false, .bool false, .int .i64 0]) ?_ 4 _ rfl; (with_reducible repeat (first | refine blk_drewN ?_ _ | refine blk_drew ?_ | refine blk_alloc ?_ _)); refine blk_put (cs := #[.bool true, .bool true, .bool true, .bool false, .bool false, .bool false, .int .i64 0]) ?_ 3 _ rfl; (with_reducible repeat (first | refine blk_drewN ?_ _ | refine blk_drew ?_ | refine blk_alloc ?_ _)); refine blk_put (cs := #[.bool true, .bool true, .bool false, .bool false, .bool false, .bool false, .int .i64 0]) ?_ 2 _ rfl; (with_reducible repeat (first | refine blk_drewN ?_ _ | refine blk_drew ?_ | refine blk_alloc ?_ _)); refine blk_put (cs := #[.bool true, .bool false, .bool false, .bool false, .bool false, .bool false, .int .i64 0]) ?_ 1 _ rfl; (with_reducible repeat (first | refine blk_drewN ?_ _ | refine blk_drew ?_ | refine blk_alloc ?_ _)); refine blk_put (cs := #[.bool false, .bool false, .bool false, .bool false, .bool false, .bool false, .int .i64 0]) ?_ 0 _ rfl; (with_reducible repeat (first | refine blk_drewN ?_ _ | refine blk_drew ?_ | refine blk_alloc ?_ _)); exact BK135.out) Tryz.underlying23 rfl (by kernel_rfl)) rfl ?_
 exact ⟨by first | rfl | (simp [errW_none, errW_some] <;> rfl) | (simp [*, errW_none, errW_some] <;> rfl), by repeat (first | (with_reducible first | exact HB.out | apply below_alloc | apply pw_below_drewN | apply below_drew1 | refine below_set ?_ GE135.out) | exact HB.out)⟩
end Go.Proofs.YtljkopbalejcgaaGreatDoor.P
end
section
namespace Go.Proofs.YtljkopbalejcgaaGreatDoor.P
open Go.RowKit Go.Proofs.YtljkopbalejcgaaGreatDoorW.PrintWords Go.Proofs.YtljkopbalejcgaaGreatDoorW.PrintLast Go.Proofs.YtljkopbalejcgaaGreatDoorW.PrintMore
attribute [local go_sem] max2_int min2_int max_two min_two max_three min_three max_four min_four
set_option linter.unusedVariables false
set_option linter.unusedSimpArgs false
open Go Go.Lib
set_option maxHeartbeats 2000000 in
set_option maxRecDepth 100000 in
theorem great_any (s : ByteArray) (w : World) (hs : s.size ≤ 140737488351232) :
  Calls Tryz.prog 43 #[.string s] w fun e w' => e = .returned (.string ⟨(s.data.toList.map upper).toArray⟩) ∧ Below w.heap.size w w' := by
 have hcv := _root_.Go.Lib.run_convert_string_bytes (P := Tryz.prog) w 9 64 5 s Tryz.underlying9 Tryz.underlying64 Tryz.underlying5
 have hrow := brow_conv w 5 s
 have hbel := below_conv w 5 s
 have hl := len_eq s
 generalize bytesWorld w 5 s = W1 at hcv hrow hbel
 generalize grownCap w s.size 0 5 = cap at hcv
 generalize s.data.toList = l at hrow hl ⊢
 have HR : Aside0 (BRow W1 w.heap.size l) := ⟨hrow⟩
 have HB : Aside0 (Below w.heap.size w W1) := ⟨hbel⟩
 have HL := Lib.hid hl
 clear hrow hbel hl
 go_enter Tryz.func43, Tryz.ntmps43
 go_wp2
 go_loopg [10] s.size (fun gk i wr => ∃ k : Nat, k ≤ s.size ∧ s.size - k ≤ gk ∧ i = .int .i64 k ∧ Aside0 (BRow wr w.heap.size (turned upper l k)) ∧ Aside0 (Below w.heap.size w wr))
 case atStart => exact ⟨0, by omega, by omega, rfl, ⟨by rw [turned_zero]; exact HR.out⟩, HB⟩
 case round =>
  clear HR HB hcv
  obtain ⟨k, hk, hg, rfl, HR, HB⟩ := hrel
  by_cases hlt : k < s.size
  ·have hlt' : k < l.length := by rw [HL.out]; exact hlt
   have hat := turned_at upper l k hlt'
   have hcell := HR.out k (by rw [turned_len]; exact hlt')
   rw [hat] at hcell
   obtain ⟨hc, hf⟩ := hcell
   have HS := Lib.hid (turned_succ upper l k hlt')
   have HK := Lib.hid (turned_keep upper l k hlt')
   have hu1 := @upper_t l[k]
   have hu2 := @upper_f l[k]
   generalize l[k] = c at hc HS HK hu1 hu2
   have HU1 := Lib.hid hu1
   have HU2 := Lib.hid hu2
   clear hat hu1 hu2
   have hb : 0 ≤ (c.toNat : Int) ∧ (c.toNat : Int) ≤ 255 := by have := c.toNat_lt; omega
   go_wp2
   all_goals
    go_roundg (s.size - (k + 1))
    case measure => omega
    case rel => first
     | exact ⟨k + 1, by omega, by omega, by go_num, ⟨by rw [← HS.out, show (c.toNat : Int) - 97 + 65 = ((upper c).toNat : Int) by rw [HU1.out ⟨by omega, by omega⟩]; omega]; exact brow_set HR.out k (by rw [turned_len]; exact hlt') (upper c)⟩, ⟨HB.out.setCell (p := ⟨w.heap.size, k, none⟩) (Nat.le_refl _) _⟩⟩
     | exact ⟨k + 1, by omega, by omega, by go_num, ⟨by rw [HK.out (HU2.out (by omega))]; exact HR.out⟩, HB⟩
  ·have e : k = s.size := by omega
   subst e
   have hs2 := brow_str (P := Tryz.prog) HR.out 64 5 9 Tryz.underlying64 Tryz.underlying5 Tryz.underlying9 cap
   rw [turned_len, HL.out, show turned upper l s.size = l.map upper by rw [← HL.out]; exact turned_all upper l] at hs2
   go_wp2
   go_ret
   exact ⟨rfl, HB.out⟩
def cmd_great.f (a : ByteArray) : Option ByteArray := if a.size ≤ 140737488351232 then some ⟨(a.data.toList.map upper).toArray⟩ else none
theorem cmd_great.calls (a : ByteArray) (r : ByteArray) (w : World) (h : cmd_great.f a = some r) :
  Calls Tryz.prog 43 #[.string a] w fun e w' => e = .returned (.string r) ∧ Below w.heap.size w w' := by
 unfold cmd_great.f at h
 split at h
 ·rename_i hs
  obtain rfl := Option.some.inj h
  exact great_any a w hs
 ·simp at h
end Go.Proofs.YtljkopbalejcgaaGreatDoor.P
end
section
namespace Go.Proofs.YtljkopbalejcgaaGreatDoor.P
open Go.RowKit Go.Proofs.YtljkopbalejcgaaGreatDoorW.PrintWords Go.Proofs.YtljkopbalejcgaaGreatDoorW.PrintLast Go.Proofs.YtljkopbalejcgaaGreatDoorW.PrintMore
attribute [local go_sem] max2_int min2_int max_two min_two max_three min_three max_four min_four
set_option linter.unusedVariables false
set_option linter.unusedSimpArgs false
def stringslite_HasPrefix.f (a0 : ByteArray) (a1 : ByteArray) : Option (Bool) := if (a0.size : Int) ≥ (a1.size : Int) then (if 0 ≤ (a1.size : Int) then (if (a1.size : Int) ≤ (a0.size : Int) then (some ((a0.extract 0 ((a1.size : Int) : Int).toNat).toList == a1.toList)) else (none)) else (none)) else (some false)
set_option maxHeartbeats 8000000 in
set_option maxRecDepth 100000 in
theorem stringslite_HasPrefix.calls (a0 : ByteArray) (a1 : ByteArray) (r : Bool) (w : World) (h : stringslite_HasPrefix.f a0 a1 = some r) :
  Calls Tryz.prog 63 #[.string a0, .string a1] w fun e w' => e = .returned (.bool r) ∧ Drawn0 w w' := by
 have H : (if (a0.size : Int) ≥ (a1.size : Int) then (if 0 ≤ (a1.size : Int) then (if (a1.size : Int) ≤ (a0.size : Int) then (some ((a0.extract 0 ((a1.size : Int) : Int).toNat).toList == a1.toList)) else (none)) else (none)) else (some false)) = some r := h
 clear h
 by_cases c3 : (a0.size : Int) ≥ (a1.size : Int)
 ·rw [if_pos c3] at H
  have c3b0 : decide ((a1.size : Int) ≤ (a0.size : Int)) = true := decide_eq_true c3
  have c3b1 : decide (a1.size ≤ a0.size) = true := decide_eq_true (Int.ofNat_le.mp c3)
  clear c3
  by_cases c4 : 0 ≤ (a1.size : Int)
  ·rw [if_pos c4] at H
   have c4b0 := eq_true c4
   have c4b1 : decide (0 ≤ (a1.size : Int)) = true := decide_eq_true c4
   clear c4
   by_cases c5 : (a1.size : Int) ≤ (a0.size : Int)
   ·rw [if_pos c5] at H
    have c5b0 := eq_true c5
    have c5b1 : decide ((a1.size : Int) ≤ (a0.size : Int)) = true := decide_eq_true c5
    clear c5
    obtain rfl := Option.some.inj H
    go_enter Tryz.func63, Tryz.ntmps63
    go_wp2
    go_ret
    exact ⟨by first | rfl | (simp; done) | (simp [*]; done), by repeat (first | exact Drawn0.refl _ | apply Drawn0.step)⟩
   ·rw [if_neg c5] at H
    exact absurd H (by simp)
  ·rw [if_neg c4] at H
   exact absurd H (by simp)
 ·rw [if_neg c3] at H
  have c3b0 : decide ((a1.size : Int) ≤ (a0.size : Int)) = false := decide_eq_false c3
  have c3b1 : decide (a1.size ≤ a0.size) = false := decide_eq_false (fun h => c3 (Int.ofNat_le.mpr h))
  clear c3
  obtain rfl := Option.some.inj H
  go_enter Tryz.func63, Tryz.ntmps63
  go_wp2
  go_ret
  exact ⟨by first | rfl | (simp; done) | (simp [*]; done), by repeat (first | exact Drawn0.refl _ | apply Drawn0.step)⟩
end Go.Proofs.YtljkopbalejcgaaGreatDoor.P
end
section
namespace Go.Proofs.YtljkopbalejcgaaGreatDoor.P
open Go.RowKit Go.Proofs.YtljkopbalejcgaaGreatDoorW.PrintWords Go.Proofs.YtljkopbalejcgaaGreatDoorW.PrintLast Go.Proofs.YtljkopbalejcgaaGreatDoorW.PrintMore
attribute [local go_sem] max2_int min2_int max_two min_two max_three min_three max_four min_four
set_option linter.unusedVariables false
set_option linter.unusedSimpArgs false
def stringslite_CutPrefix.f (a0 : ByteArray) (a1 : ByteArray) : Option (ByteArray × Bool) := (stringslite_HasPrefix.f a0 a1).bind fun t119 => (if t119 = true then (if 0 ≤ (a1.size : Int) then (if (a1.size : Int) ≤ (a0.size : Int) then (some (a0.extract ((a1.size : Int) : Int).toNat a0.size, true)) else (none)) else (none)) else (some (a0, false)))
set_option maxHeartbeats 8000000 in
set_option maxRecDepth 100000 in
theorem stringslite_CutPrefix.calls (a0 : ByteArray) (a1 : ByteArray) (r1 : ByteArray) (r2 : Bool) (w : World) (h : stringslite_CutPrefix.f a0 a1 = some (r1, r2)) :
  Calls Tryz.prog 84 #[.string a0, .string a1] w fun e w' => e = .returned (.tuple #[.string r1, .bool r2]) ∧ Drawn0 w w' := by
 have H : ((stringslite_HasPrefix.f a0 a1).bind fun t119 => (if t119 = true then (if 0 ≤ (a1.size : Int) then (if (a1.size : Int) ≤ (a0.size : Int) then (some (a0.extract ((a1.size : Int) : Int).toNat a0.size, true)) else (none)) else (none)) else (some (a0, false)))) = some (r1, r2) := h
 clear h
 replace H := Option.bind_eq_some_iff.mp H
 obtain ⟨t119, A30, H⟩ := H
 replace H : (if t119 = true then (if 0 ≤ (a1.size : Int) then (if (a1.size : Int) ≤ (a0.size : Int) then (some (a0.extract ((a1.size : Int) : Int).toNat a0.size, true)) else (none)) else (none)) else (some (a0, false))) = some (r1, r2) := H
 have A3 := Aside0.mk A30
 clear A30
 by_cases c4 : t119 = true
 ·subst c4
  have H1 : (if 0 ≤ (a1.size : Int) then (if (a1.size : Int) ≤ (a0.size : Int) then (some (a0.extract ((a1.size : Int) : Int).toNat a0.size, true)) else (none)) else (none)) = some (r1, r2) := by rw [if_pos rfl] at H; exact H
  clear H
  have H := H1
  clear H1
  by_cases c5 : 0 ≤ (a1.size : Int)
  ·rw [if_pos c5] at H
   have c5b0 := eq_true c5
   have c5b1 : decide (0 ≤ (a1.size : Int)) = true := decide_eq_true c5
   clear c5
   by_cases c6 : (a1.size : Int) ≤ (a0.size : Int)
   ·rw [if_pos c6] at H
    have c6b0 := eq_true c6
    have c6b1 : decide ((a1.size : Int) ≤ (a0.size : Int)) = true := decide_eq_true c6
    clear c6
    simp only [Option.some.injEq, Prod.mk.injEq] at H
    obtain ⟨rfl, rfl⟩ := H
    go_enter Tryz.func84, Tryz.ntmps84
    go_wp2_with (first | ((with_reducible refine gate_callee (f := 63) rfl ?_); refine goesL_ (some 8) rfl rfl Tryz.func63 (by kernel_rfl) rfl #[.string a0, .string a1] rfl (by (try simp only [List.map_toArray, List.map_cons, List.map_nil]); first | done | rfl | (simp only [List.length_drop, List.length_take]; rfl)) ?_; (with_reducible refine (stringslite_HasPrefix.calls a0 a1 true _ A3.out).mono ?_); rintro e w' ⟨rfl, ⟨nd, rfl⟩⟩; refine ⟨_, rfl, ?_⟩))
    go_ret2
    exact ⟨by first | rfl | (simp; done) | (simp [*]; done), by repeat (first | exact Drawn0.refl _ | apply Drawn0.step)⟩
   ·rw [if_neg c6] at H
    exact absurd H (by simp)
  ·rw [if_neg c5] at H
   exact absurd H (by simp)
 ·replace c4 := Bool.eq_false_iff.mpr c4
  subst c4
  have H1 : (some (a0, false)) = some (r1, r2) := by rw [if_neg (show ¬ (false = true) by decide)] at H; exact H
  clear H
  have H := H1
  clear H1
  simp only [Option.some.injEq, Prod.mk.injEq] at H
  obtain ⟨rfl, rfl⟩ := H
  go_enter Tryz.func84, Tryz.ntmps84
  go_wp2_with (first | ((with_reducible refine gate_callee (f := 63) rfl ?_); refine goesL_ (some 8) rfl rfl Tryz.func63 (by kernel_rfl) rfl #[.string a0, .string a1] rfl (by (try simp only [List.map_toArray, List.map_cons, List.map_nil]); first | done | rfl | (simp only [List.length_drop, List.length_take]; rfl)) ?_; (with_reducible refine (stringslite_HasPrefix.calls a0 a1 false _ A3.out).mono ?_); rintro e w' ⟨rfl, ⟨nd, rfl⟩⟩; refine ⟨_, rfl, ?_⟩))
  go_ret2
  exact ⟨by first | rfl | (simp; done) | (simp [*]; done), by repeat (first | exact Drawn0.refl _ | apply Drawn0.step)⟩
end Go.Proofs.YtljkopbalejcgaaGreatDoor.P
end
section
namespace Go.Proofs.YtljkopbalejcgaaGreatDoor.P
open Go.RowKit Go.Proofs.YtljkopbalejcgaaGreatDoorW.PrintWords Go.Proofs.YtljkopbalejcgaaGreatDoorW.PrintLast Go.Proofs.YtljkopbalejcgaaGreatDoorW.PrintMore
attribute [local go_sem] max2_int min2_int max_two min_two max_three min_three max_four min_four
set_option linter.unusedVariables false
set_option linter.unusedSimpArgs false
def strings_CutPrefix.f (a0 : ByteArray) (a1 : ByteArray) : Option (ByteArray × Bool) := (stringslite_CutPrefix.f a0 a1).bind fun bt120 => (some (bt120.1, bt120.2))
set_option maxHeartbeats 8000000 in
set_option maxRecDepth 100000 in
theorem strings_CutPrefix.calls (a0 : ByteArray) (a1 : ByteArray) (r1 : ByteArray) (r2 : Bool) (w : World) (h : strings_CutPrefix.f a0 a1 = some (r1, r2)) :
  Calls Tryz.prog 66 #[.string a0, .string a1] w fun e w' => e = .returned (.tuple #[.string r1, .bool r2]) ∧ Drawn0 w w' := by
 have H : ((stringslite_CutPrefix.f a0 a1).bind fun bt120 => (some (bt120.1, bt120.2))) = some (r1, r2) := h
 clear h
 replace H := Option.bind_eq_some_iff.mp H
 obtain ⟨⟨t120, t121⟩, A30, H⟩ := H
 replace H : (some (t120, t121)) = some (r1, r2) := H
 have A3 := Aside0.mk A30
 clear A30
 simp only [Option.some.injEq, Prod.mk.injEq] at H
 obtain ⟨rfl, rfl⟩ := H
 go_enter Tryz.func66, Tryz.ntmps66
 go_wp2_with (first | ((with_reducible refine gate_callee (f := 84) rfl ?_); refine goesL_ (some 8) rfl rfl Tryz.func84 (by kernel_rfl) rfl #[.string a0, .string a1] rfl (by (try simp only [List.map_toArray, List.map_cons, List.map_nil]); first | done | rfl | (simp only [List.length_drop, List.length_take]; rfl)) ?_; (with_reducible refine (stringslite_CutPrefix.calls a0 a1 t120 t121 _ A3.out).mono ?_); rintro e w' ⟨rfl, ⟨nd, rfl⟩⟩; refine ⟨_, rfl, ?_⟩))
 go_ret2
 exact ⟨by first | rfl | (simp; done) | (simp [*]; done), by repeat (first | exact Drawn0.refl _ | apply Drawn0.step)⟩
end Go.Proofs.YtljkopbalejcgaaGreatDoor.P
end
section
namespace Go.Proofs.YtljkopbalejcgaaGreatDoor.P
open Go.RowKit Go.Proofs.YtljkopbalejcgaaGreatDoorW.PrintWords Go.Proofs.YtljkopbalejcgaaGreatDoorW.PrintLast Go.Proofs.YtljkopbalejcgaaGreatDoorW.PrintMore
attribute [local go_sem] max2_int min2_int max_two min_two max_three min_three max_four min_four
set_option linter.unusedVariables false
set_option linter.unusedSimpArgs false
def stringslite_HasSuffix.f (a0 : ByteArray) (a1 : ByteArray) : Option (Bool) := if (a0.size : Int) ≥ (a1.size : Int) then (if 0 ≤ (wrap64 ((a0.size : Int) - (a1.size : Int))) then (if (wrap64 ((a0.size : Int) - (a1.size : Int))) ≤ (a0.size : Int) then (some ((a0.extract ((wrap64 ((a0.size : Int) - (a1.size : Int))) : Int).toNat a0.size).toList == a1.toList)) else (none)) else (none)) else (some false)
set_option maxHeartbeats 8000000 in
set_option maxRecDepth 100000 in
theorem stringslite_HasSuffix.calls (a0 : ByteArray) (a1 : ByteArray) (r : Bool) (w : World) (h : stringslite_HasSuffix.f a0 a1 = some r) :
  Calls Tryz.prog 68 #[.string a0, .string a1] w fun e w' => e = .returned (.bool r) ∧ Drawn0 w w' := by
 have H : (if (a0.size : Int) ≥ (a1.size : Int) then (if 0 ≤ (wrap64 ((a0.size : Int) - (a1.size : Int))) then (if (wrap64 ((a0.size : Int) - (a1.size : Int))) ≤ (a0.size : Int) then (some ((a0.extract ((wrap64 ((a0.size : Int) - (a1.size : Int))) : Int).toNat a0.size).toList == a1.toList)) else (none)) else (none)) else (some false)) = some r := h
 clear h
 by_cases c3 : (a0.size : Int) ≥ (a1.size : Int)
 ·rw [if_pos c3] at H
  have c3b0 : decide ((a1.size : Int) ≤ (a0.size : Int)) = true := decide_eq_true c3
  have c3b1 : decide (a1.size ≤ a0.size) = true := decide_eq_true (Int.ofNat_le.mp c3)
  clear c3
  obtain ⟨ji4, hji4⟩ : ∃ j_ : Int, (wrap64 ((a0.size : Int) - (a1.size : Int))) = j_ := ⟨_, rfl⟩
  replace H : (if 0 ≤ (ji4) then (if (ji4) ≤ (a0.size : Int) then (some ((a0.extract ((ji4) : Int).toNat a0.size).toList == a1.toList)) else (none)) else (none)) = some r := by first | (rw [hji4] at H; exact H) | (simp only [hji4] at H ⊢; exact H)
  have hji4w : (IntKind.i64.wrap ((a0.size : Int) - (a1.size : Int))) = ji4 := (i64_w _).trans hji4
  by_cases c5 : 0 ≤ (ji4)
  ·rw [if_pos c5] at H
   have c5b0 := eq_true c5
   have c5b1 : decide (0 ≤ (ji4)) = true := decide_eq_true c5
   clear c5
   by_cases c6 : (ji4) ≤ (a0.size : Int)
   ·rw [if_pos c6] at H
    have c6b0 := eq_true c6
    have c6b1 : decide ((ji4) ≤ (a0.size : Int)) = true := decide_eq_true c6
    clear c6
    obtain rfl := Option.some.inj H
    go_enter Tryz.func68, Tryz.ntmps68
    go_wp2
    go_ret
    exact ⟨by first | rfl | (simp; done) | (simp only [← hji4] <;> (first | rfl | simp)) | (simp [*]; done), by repeat (first | exact Drawn0.refl _ | apply Drawn0.step)⟩
   ·rw [if_neg c6] at H
    exact absurd H (by simp)
  ·rw [if_neg c5] at H
   exact absurd H (by simp)
 ·rw [if_neg c3] at H
  have c3b0 : decide ((a1.size : Int) ≤ (a0.size : Int)) = false := decide_eq_false c3
  have c3b1 : decide (a1.size ≤ a0.size) = false := decide_eq_false (fun h => c3 (Int.ofNat_le.mpr h))
  clear c3
  obtain rfl := Option.some.inj H
  go_enter Tryz.func68, Tryz.ntmps68
  go_wp2
  go_ret
  exact ⟨by first | rfl | (simp; done) | (simp [*]; done), by repeat (first | exact Drawn0.refl _ | apply Drawn0.step)⟩
end Go.Proofs.YtljkopbalejcgaaGreatDoor.P
end
section
namespace Go.Proofs.YtljkopbalejcgaaGreatDoor.P
open Go.RowKit Go.Proofs.YtljkopbalejcgaaGreatDoorW.PrintWords Go.Proofs.YtljkopbalejcgaaGreatDoorW.PrintLast Go.Proofs.YtljkopbalejcgaaGreatDoorW.PrintMore
attribute [local go_sem] max2_int min2_int max_two min_two max_three min_three max_four min_four
set_option linter.unusedVariables false
set_option linter.unusedSimpArgs false
def stringslite_CutSuffix.f (a0 : ByteArray) (a1 : ByteArray) : Option (ByteArray × Bool) := (stringslite_HasSuffix.f a0 a1).bind fun t122 => (if t122 = true then (if 0 ≤ (wrap64 ((a0.size : Int) - (a1.size : Int))) then (if (wrap64 ((a0.size : Int) - (a1.size : Int))) ≤ (a0.size : Int) then (some (a0.extract 0 ((wrap64 ((a0.size : Int) - (a1.size : Int))) : Int).toNat, true)) else (none)) else (none)) else (some (a0, false)))
set_option maxHeartbeats 8000000 in
set_option maxRecDepth 100000 in
theorem stringslite_CutSuffix.calls (a0 : ByteArray) (a1 : ByteArray) (r1 : ByteArray) (r2 : Bool) (w : World) (h : stringslite_CutSuffix.f a0 a1 = some (r1, r2)) :
  Calls Tryz.prog 93 #[.string a0, .string a1] w fun e w' => e = .returned (.tuple #[.string r1, .bool r2]) ∧ Drawn0 w w' := by
 have H : ((stringslite_HasSuffix.f a0 a1).bind fun t122 => (if t122 = true then (if 0 ≤ (wrap64 ((a0.size : Int) - (a1.size : Int))) then (if (wrap64 ((a0.size : Int) - (a1.size : Int))) ≤ (a0.size : Int) then (some (a0.extract 0 ((wrap64 ((a0.size : Int) - (a1.size : Int))) : Int).toNat, true)) else (none)) else (none)) else (some (a0, false)))) = some (r1, r2) := h
 clear h
 replace H := Option.bind_eq_some_iff.mp H
 obtain ⟨t122, A30, H⟩ := H
 replace H : (if t122 = true then (if 0 ≤ (wrap64 ((a0.size : Int) - (a1.size : Int))) then (if (wrap64 ((a0.size : Int) - (a1.size : Int))) ≤ (a0.size : Int) then (some (a0.extract 0 ((wrap64 ((a0.size : Int) - (a1.size : Int))) : Int).toNat, true)) else (none)) else (none)) else (some (a0, false))) = some (r1, r2) := H
 have A3 := Aside0.mk A30
 clear A30
 by_cases c4 : t122 = true
 ·subst c4
  have H1 : (if 0 ≤ (wrap64 ((a0.size : Int) - (a1.size : Int))) then (if (wrap64 ((a0.size : Int) - (a1.size : Int))) ≤ (a0.size : Int) then (some (a0.extract 0 ((wrap64 ((a0.size : Int) - (a1.size : Int))) : Int).toNat, true)) else (none)) else (none)) = some (r1, r2) := by rw [if_pos rfl] at H; exact H
  clear H
  have H := H1
  clear H1
  obtain ⟨ji5, hji5⟩ : ∃ j_ : Int, (wrap64 ((a0.size : Int) - (a1.size : Int))) = j_ := ⟨_, rfl⟩
  replace H : (if 0 ≤ (ji5) then (if (ji5) ≤ (a0.size : Int) then (some (a0.extract 0 ((ji5) : Int).toNat, true)) else (none)) else (none)) = some (r1, r2) := by first | (rw [hji5] at H; exact H) | (simp only [hji5] at H ⊢; exact H)
  (try rw [hji5] at A3)
  have hji5w : (IntKind.i64.wrap ((a0.size : Int) - (a1.size : Int))) = ji5 := (i64_w _).trans hji5
  by_cases c6 : 0 ≤ (ji5)
  ·rw [if_pos c6] at H
   have c6b0 := eq_true c6
   have c6b1 : decide (0 ≤ (ji5)) = true := decide_eq_true c6
   clear c6
   by_cases c7 : (ji5) ≤ (a0.size : Int)
   ·rw [if_pos c7] at H
    have c7b0 := eq_true c7
    have c7b1 : decide ((ji5) ≤ (a0.size : Int)) = true := decide_eq_true c7
    clear c7
    simp only [Option.some.injEq, Prod.mk.injEq] at H
    obtain ⟨rfl, rfl⟩ := H
    go_enter Tryz.func93, Tryz.ntmps93
    go_wp2_with (first | ((with_reducible refine gate_callee (f := 68) rfl ?_); refine goesL_ (some 8) rfl rfl Tryz.func68 (by kernel_rfl) rfl #[.string a0, .string a1] rfl (by (try simp only [List.map_toArray, List.map_cons, List.map_nil]); first | done | rfl | (simp only [List.length_drop, List.length_take]; rfl)) ?_; (with_reducible refine (stringslite_HasSuffix.calls a0 a1 true _ A3.out).mono ?_); rintro e w' ⟨rfl, ⟨nd, rfl⟩⟩; refine ⟨_, rfl, ?_⟩))
    go_ret2
    exact ⟨by first | rfl | (simp; done) | (simp only [← hji5] <;> (first | rfl | simp)) | (simp [*]; done), by repeat (first | exact Drawn0.refl _ | apply Drawn0.step)⟩
   ·rw [if_neg c7] at H
    exact absurd H (by simp)
  ·rw [if_neg c6] at H
   exact absurd H (by simp)
 ·replace c4 := Bool.eq_false_iff.mpr c4
  subst c4
  have H1 : (some (a0, false)) = some (r1, r2) := by rw [if_neg (show ¬ (false = true) by decide)] at H; exact H
  clear H
  have H := H1
  clear H1
  simp only [Option.some.injEq, Prod.mk.injEq] at H
  obtain ⟨rfl, rfl⟩ := H
  go_enter Tryz.func93, Tryz.ntmps93
  go_wp2_with (first | ((with_reducible refine gate_callee (f := 68) rfl ?_); refine goesL_ (some 8) rfl rfl Tryz.func68 (by kernel_rfl) rfl #[.string a0, .string a1] rfl (by (try simp only [List.map_toArray, List.map_cons, List.map_nil]); first | done | rfl | (simp only [List.length_drop, List.length_take]; rfl)) ?_; (with_reducible refine (stringslite_HasSuffix.calls a0 a1 false _ A3.out).mono ?_); rintro e w' ⟨rfl, ⟨nd, rfl⟩⟩; refine ⟨_, rfl, ?_⟩))
  go_ret2
  exact ⟨by first | rfl | (simp; done) | (simp [*]; done), by repeat (first | exact Drawn0.refl _ | apply Drawn0.step)⟩
end Go.Proofs.YtljkopbalejcgaaGreatDoor.P
end
section
namespace Go.Proofs.YtljkopbalejcgaaGreatDoor.P
open Go.RowKit Go.Proofs.YtljkopbalejcgaaGreatDoorW.PrintWords Go.Proofs.YtljkopbalejcgaaGreatDoorW.PrintLast Go.Proofs.YtljkopbalejcgaaGreatDoorW.PrintMore
attribute [local go_sem] max2_int min2_int max_two min_two max_three min_three max_four min_four
set_option linter.unusedVariables false
set_option linter.unusedSimpArgs false
def strings_CutSuffix.f (a0 : ByteArray) (a1 : ByteArray) : Option (ByteArray × Bool) := (stringslite_CutSuffix.f a0 a1).bind fun bt123 => (some (bt123.1, bt123.2))
set_option maxHeartbeats 8000000 in
set_option maxRecDepth 100000 in
theorem strings_CutSuffix.calls (a0 : ByteArray) (a1 : ByteArray) (r1 : ByteArray) (r2 : Bool) (w : World) (h : strings_CutSuffix.f a0 a1 = some (r1, r2)) :
  Calls Tryz.prog 83 #[.string a0, .string a1] w fun e w' => e = .returned (.tuple #[.string r1, .bool r2]) ∧ Drawn0 w w' := by
 have H : ((stringslite_CutSuffix.f a0 a1).bind fun bt123 => (some (bt123.1, bt123.2))) = some (r1, r2) := h
 clear h
 replace H := Option.bind_eq_some_iff.mp H
 obtain ⟨⟨t123, t124⟩, A30, H⟩ := H
 replace H : (some (t123, t124)) = some (r1, r2) := H
 have A3 := Aside0.mk A30
 clear A30
 simp only [Option.some.injEq, Prod.mk.injEq] at H
 obtain ⟨rfl, rfl⟩ := H
 go_enter Tryz.func83, Tryz.ntmps83
 go_wp2_with (first | ((with_reducible refine gate_callee (f := 93) rfl ?_); refine goesL_ (some 8) rfl rfl Tryz.func93 (by kernel_rfl) rfl #[.string a0, .string a1] rfl (by (try simp only [List.map_toArray, List.map_cons, List.map_nil]); first | done | rfl | (simp only [List.length_drop, List.length_take]; rfl)) ?_; (with_reducible refine (stringslite_CutSuffix.calls a0 a1 t123 t124 _ A3.out).mono ?_); rintro e w' ⟨rfl, ⟨nd, rfl⟩⟩; refine ⟨_, rfl, ?_⟩))
 go_ret2
 exact ⟨by first | rfl | (simp; done) | (simp [*]; done), by repeat (first | exact Drawn0.refl _ | apply Drawn0.step)⟩
end Go.Proofs.YtljkopbalejcgaaGreatDoor.P
end
section
namespace Go.Proofs.YtljkopbalejcgaaGreatDoor.P
open Go.RowKit Go.Proofs.YtljkopbalejcgaaGreatDoorW.PrintWords Go.Proofs.YtljkopbalejcgaaGreatDoorW.PrintLast Go.Proofs.YtljkopbalejcgaaGreatDoorW.PrintMore
attribute [local go_sem] max2_int min2_int max_two min_two max_three min_three max_four min_four
set_option linter.unusedVariables false
set_option linter.unusedSimpArgs false
def addr_Unpath.f (a0 : ByteArray) : Option (ByteArray × Int) := (strings_CutPrefix.f a0 (⟨#[60]⟩ : ByteArray)).bind fun bt125 => ((strings_CutSuffix.f bt125.1 (⟨#[62]⟩ : ByteArray)).bind fun bt127 => (if bt125.2 = true then (if bt127.2 = true then ((addr_Path.f bt127.1).bind fun t129 => (if t129.toList = ([] : List UInt8) then (some ((⟨#[]⟩ : ByteArray), 4)) else (some (bt127.1, 0)))) else (some ((⟨#[]⟩ : ByteArray), 4))) else (some ((⟨#[]⟩ : ByteArray), 4))))
set_option maxHeartbeats 8000000 in
set_option maxRecDepth 100000 in
theorem addr_Unpath.calls (a0 : ByteArray) (r1 : ByteArray) (r2 : Int) (w : World) (h : addr_Unpath.f a0 = some (r1, r2)) :
  Calls Tryz.prog 64 #[.string a0] w fun e w' => e = .returned (.tuple #[.string r1, .int .i64 r2]) ∧ Below w.heap.size w w' := by
 have HB := Aside0.mk (Below.refl w.heap.size w)
 have H : ((strings_CutPrefix.f a0 (⟨#[60]⟩ : ByteArray)).bind fun bt125 => ((strings_CutSuffix.f bt125.1 (⟨#[62]⟩ : ByteArray)).bind fun bt127 => (if bt125.2 = true then (if bt127.2 = true then ((addr_Path.f bt127.1).bind fun t129 => (if t129.toList = ([] : List UInt8) then (some ((⟨#[]⟩ : ByteArray), 4)) else (some (bt127.1, 0)))) else (some ((⟨#[]⟩ : ByteArray), 4))) else (some ((⟨#[]⟩ : ByteArray), 4))))) = some (r1, r2) := h
 clear h
 replace H := Option.bind_eq_some_iff.mp H
 obtain ⟨⟨t125, t126⟩, A20, H⟩ := H
 replace H : ((strings_CutSuffix.f t125 (⟨#[62]⟩ : ByteArray)).bind fun bt127 => (if t126 = true then (if bt127.2 = true then ((addr_Path.f bt127.1).bind fun t129 => (if t129.toList = ([] : List UInt8) then (some ((⟨#[]⟩ : ByteArray), 4)) else (some (bt127.1, 0)))) else (some ((⟨#[]⟩ : ByteArray), 4))) else (some ((⟨#[]⟩ : ByteArray), 4)))) = some (r1, r2) := H
 have A2 := Aside0.mk A20
 clear A20
 replace H := Option.bind_eq_some_iff.mp H
 obtain ⟨⟨t127, t128⟩, A30, H⟩ := H
 replace H : (if t126 = true then (if t128 = true then ((addr_Path.f t127).bind fun t129 => (if t129.toList = ([] : List UInt8) then (some ((⟨#[]⟩ : ByteArray), 4)) else (some (t127, 0)))) else (some ((⟨#[]⟩ : ByteArray), 4))) else (some ((⟨#[]⟩ : ByteArray), 4))) = some (r1, r2) := H
 have A3 := Aside0.mk A30
 clear A30
 by_cases c4 : t126 = true
 ·subst c4
  have H1 : (if t128 = true then ((addr_Path.f t127).bind fun t129 => (if t129.toList = ([] : List UInt8) then (some ((⟨#[]⟩ : ByteArray), 4)) else (some (t127, 0)))) else (some ((⟨#[]⟩ : ByteArray), 4))) = some (r1, r2) := by rw [if_pos rfl] at H; exact H
  clear H
  have H := H1
  clear H1
  by_cases c5 : t128 = true
  ·subst c5
   have H1 : ((addr_Path.f t127).bind fun t129 => (if t129.toList = ([] : List UInt8) then (some ((⟨#[]⟩ : ByteArray), 4)) else (some (t127, 0)))) = some (r1, r2) := by rw [if_pos rfl] at H; exact H
   clear H
   have H := H1
   clear H1
   replace H := Option.bind_eq_some_iff.mp H
   obtain ⟨t129, A60, H⟩ := H
   replace H : (if t129.toList = ([] : List UInt8) then (some ((⟨#[]⟩ : ByteArray), 4)) else (some (t127, 0))) = some (r1, r2) := H
   have A6 := Aside0.mk A60
   clear A60
   by_cases c7 : t129.toList = ([] : List UInt8)
   ·rw [if_pos c7] at H
    have c7b0 : (t129.toList == ([] : List UInt8)) = true := beq_iff_eq.mpr c7
    have c7b1 : (t129.toList != ([] : List UInt8)) = false := bne_eq_false_iff_eq.mpr c7
    clear c7
    simp only [Option.some.injEq, Prod.mk.injEq] at H
    obtain ⟨rfl, rfl⟩ := H
    go_enter Tryz.func64, Tryz.ntmps64
    go_wp2_with (first | ((with_reducible refine gate_callee (f := 66) rfl ?_); refine goesL_ (some 9) rfl rfl Tryz.func66 (by kernel_rfl) rfl #[.string a0, .string (⟨#[60]⟩ : ByteArray)] rfl (by (try simp only [List.map_toArray, List.map_cons, List.map_nil]); first | done | rfl | (simp only [List.length_drop, List.length_take]; rfl)) ?_; (with_reducible refine (strings_CutPrefix.calls a0 (⟨#[60]⟩ : ByteArray) t125 true _ A2.out).mono ?_); rintro e w' ⟨rfl, ⟨nd, rfl⟩⟩; refine ⟨_, rfl, ?_⟩) | ((with_reducible refine gate_callee (f := 83) rfl ?_); refine goesL_ (some 14) rfl rfl Tryz.func83 (by kernel_rfl) rfl #[.string t125, .string (⟨#[62]⟩ : ByteArray)] rfl (by (try simp only [List.map_toArray, List.map_cons, List.map_nil]); first | done | rfl | (simp only [List.length_drop, List.length_take]; rfl)) ?_; (with_reducible refine (strings_CutSuffix.calls t125 (⟨#[62]⟩ : ByteArray) t127 true _ A3.out).mono ?_); rintro e w' ⟨rfl, ⟨nd, rfl⟩⟩; refine ⟨_, rfl, ?_⟩) | (go_at_call 33; (with_reducible refine (addr_Path.calls t127 t129 _ A6.out).mono ?_); rintro e w8 ⟨rfl, hb⟩; have n0_ := Aside0.mk (below_step (by repeat (first | (with_reducible first | exact HB.out | apply below_alloc | apply pw_below_drewN | apply below_drew1) | exact HB.out)) hb); clear HB; have HB := n0_; clear n0_; (try clear hb); (try clear hb2); (try clear hk); (try clear hi)))
    go_ret2
    exact ⟨by first | rfl | (simp [errW_none, errW_some] <;> rfl) | (simp [*, errW_none, errW_some] <;> rfl), by repeat (first | (with_reducible first | exact HB.out | apply below_alloc | apply pw_below_drewN | apply below_drew1) | exact HB.out)⟩
   ·rw [if_neg c7] at H
    have c7b0 : (t129.toList == ([] : List UInt8)) = false := beq_eq_false_iff_ne.mpr c7
    have c7b1 : (t129.toList != ([] : List UInt8)) = true := bne_iff_ne.mpr c7
    simp only [Option.some.injEq, Prod.mk.injEq] at H
    obtain ⟨rfl, rfl⟩ := H
    go_enter Tryz.func64, Tryz.ntmps64
    go_wp2_with (first | ((with_reducible refine gate_callee (f := 66) rfl ?_); refine goesL_ (some 9) rfl rfl Tryz.func66 (by kernel_rfl) rfl #[.string a0, .string (⟨#[60]⟩ : ByteArray)] rfl (by (try simp only [List.map_toArray, List.map_cons, List.map_nil]); first | done | rfl | (simp only [List.length_drop, List.length_take]; rfl)) ?_; (with_reducible refine (strings_CutPrefix.calls a0 (⟨#[60]⟩ : ByteArray) t125 true _ A2.out).mono ?_); rintro e w' ⟨rfl, ⟨nd, rfl⟩⟩; refine ⟨_, rfl, ?_⟩) | ((with_reducible refine gate_callee (f := 83) rfl ?_); refine goesL_ (some 14) rfl rfl Tryz.func83 (by kernel_rfl) rfl #[.string t125, .string (⟨#[62]⟩ : ByteArray)] rfl (by (try simp only [List.map_toArray, List.map_cons, List.map_nil]); first | done | rfl | (simp only [List.length_drop, List.length_take]; rfl)) ?_; (with_reducible refine (strings_CutSuffix.calls t125 (⟨#[62]⟩ : ByteArray) t127 true _ A3.out).mono ?_); rintro e w' ⟨rfl, ⟨nd, rfl⟩⟩; refine ⟨_, rfl, ?_⟩) | (go_at_call 33; (with_reducible refine (addr_Path.calls t127 t129 _ A6.out).mono ?_); rintro e w9 ⟨rfl, hb⟩; have n0_ := Aside0.mk (below_step (by repeat (first | (with_reducible first | exact HB.out | apply below_alloc | apply pw_below_drewN | apply below_drew1) | exact HB.out)) hb); clear HB; have HB := n0_; clear n0_; (try clear hb); (try clear hb2); (try clear hk); (try clear hi)))
    go_ret2
    exact ⟨by first | rfl | (simp [errW_none, errW_some] <;> rfl) | (simp [*, errW_none, errW_some] <;> rfl), by repeat (first | (with_reducible first | exact HB.out | apply below_alloc | apply pw_below_drewN | apply below_drew1) | exact HB.out)⟩
  ·replace c5 := Bool.eq_false_iff.mpr c5
   subst c5
   have H1 : (some ((⟨#[]⟩ : ByteArray), 4)) = some (r1, r2) := by rw [if_neg (show ¬ (false = true) by decide)] at H; exact H
   clear H
   have H := H1
   clear H1
   simp only [Option.some.injEq, Prod.mk.injEq] at H
   obtain ⟨rfl, rfl⟩ := H
   go_enter Tryz.func64, Tryz.ntmps64
   go_wp2_with (first | ((with_reducible refine gate_callee (f := 66) rfl ?_); refine goesL_ (some 9) rfl rfl Tryz.func66 (by kernel_rfl) rfl #[.string a0, .string (⟨#[60]⟩ : ByteArray)] rfl (by (try simp only [List.map_toArray, List.map_cons, List.map_nil]); first | done | rfl | (simp only [List.length_drop, List.length_take]; rfl)) ?_; (with_reducible refine (strings_CutPrefix.calls a0 (⟨#[60]⟩ : ByteArray) t125 true _ A2.out).mono ?_); rintro e w' ⟨rfl, ⟨nd, rfl⟩⟩; refine ⟨_, rfl, ?_⟩) | ((with_reducible refine gate_callee (f := 83) rfl ?_); refine goesL_ (some 14) rfl rfl Tryz.func83 (by kernel_rfl) rfl #[.string t125, .string (⟨#[62]⟩ : ByteArray)] rfl (by (try simp only [List.map_toArray, List.map_cons, List.map_nil]); first | done | rfl | (simp only [List.length_drop, List.length_take]; rfl)) ?_; (with_reducible refine (strings_CutSuffix.calls t125 (⟨#[62]⟩ : ByteArray) t127 false _ A3.out).mono ?_); rintro e w' ⟨rfl, ⟨nd, rfl⟩⟩; refine ⟨_, rfl, ?_⟩))
   go_ret2
   exact ⟨by first | rfl | (simp [errW_none, errW_some] <;> rfl) | (simp [*, errW_none, errW_some] <;> rfl), by repeat (first | (with_reducible first | exact HB.out | apply below_alloc | apply pw_below_drewN | apply below_drew1) | exact HB.out)⟩
 ·replace c4 := Bool.eq_false_iff.mpr c4
  subst c4
  have H1 : (some ((⟨#[]⟩ : ByteArray), 4)) = some (r1, r2) := by rw [if_neg (show ¬ (false = true) by decide)] at H; exact H
  clear H
  have H := H1
  clear H1
  simp only [Option.some.injEq, Prod.mk.injEq] at H
  obtain ⟨rfl, rfl⟩ := H
  go_enter Tryz.func64, Tryz.ntmps64
  go_wp2_with (first | ((with_reducible refine gate_callee (f := 66) rfl ?_); refine goesL_ (some 9) rfl rfl Tryz.func66 (by kernel_rfl) rfl #[.string a0, .string (⟨#[60]⟩ : ByteArray)] rfl (by (try simp only [List.map_toArray, List.map_cons, List.map_nil]); first | done | rfl | (simp only [List.length_drop, List.length_take]; rfl)) ?_; (with_reducible refine (strings_CutPrefix.calls a0 (⟨#[60]⟩ : ByteArray) t125 false _ A2.out).mono ?_); rintro e w' ⟨rfl, ⟨nd, rfl⟩⟩; refine ⟨_, rfl, ?_⟩) | ((with_reducible refine gate_callee (f := 83) rfl ?_); refine goesL_ (some 14) rfl rfl Tryz.func83 (by kernel_rfl) rfl #[.string t125, .string (⟨#[62]⟩ : ByteArray)] rfl (by (try simp only [List.map_toArray, List.map_cons, List.map_nil]); first | done | rfl | (simp only [List.length_drop, List.length_take]; rfl)) ?_; (with_reducible refine (strings_CutSuffix.calls t125 (⟨#[62]⟩ : ByteArray) t127 t128 _ A3.out).mono ?_); rintro e w' ⟨rfl, ⟨nd, rfl⟩⟩; refine ⟨_, rfl, ?_⟩))
  go_ret2
  exact ⟨by first | rfl | (simp [errW_none, errW_some] <;> rfl) | (simp [*, errW_none, errW_some] <;> rfl), by repeat (first | (with_reducible first | exact HB.out | apply below_alloc | apply pw_below_drewN | apply below_drew1) | exact HB.out)⟩
end Go.Proofs.YtljkopbalejcgaaGreatDoor.P
end
section
namespace Go.Proofs.YtljkopbalejcgaaGreatDoor.P
open Go.RowKit Go.Proofs.YtljkopbalejcgaaGreatDoorW.PrintWords Go.Proofs.YtljkopbalejcgaaGreatDoorW.PrintLast Go.Proofs.YtljkopbalejcgaaGreatDoorW.PrintMore
attribute [local go_sem] max2_int min2_int max_two min_two max_three min_three max_four min_four
set_option linter.unusedVariables false
set_option linter.unusedSimpArgs false
def cmd_path.l0 : Nat → ByteArray → Int → Int → Option (ByteArray × ByteArray × Bool)
 | 0, _, _, _ => none
 | k + 1, x0, x9, x10 => if x10 < x9 then (if 0 ≤ x10 then (if x10 < (x0.size : Int) then (if (bt x0 x10) = 62 then (if 0 ≤ (wrap64 (x10 + 1)) then (if (wrap64 (x10 + 1)) ≤ (x0.size : Int) then ((addr_Unpath.f (x0.extract 0 ((wrap64 (x10 + 1)) : Int).toNat)).bind fun bt130 => (if bt130.2 = 0 then (some (bt130.1, x0.extract ((wrap64 (x10 + 1)) : Int).toNat x0.size, true)) else (cmd_path.l0 k x0 x9 (wrap64 (x10 + 1))))) else (none)) else (none)) else (cmd_path.l0 k x0 x9 (wrap64 (x10 + 1)))) else (none)) else (none)) else (some ((⟨#[]⟩ : ByteArray), (⟨#[]⟩ : ByteArray), false))
def cmd_path.f (k : Nat) (a0 : ByteArray) : Option (ByteArray × ByteArray × Bool) := cmd_path.l0 k a0 (a0.size : Int) 0
theorem cmd_path.mono_l : ∀ k, (∀ y0 y1 y2, LeO (cmd_path.l0 k y0 y1 y2) (cmd_path.l0 (k + 1) y0 y1 y2))
 | 0 => fun _ _ _ r h => by simp [cmd_path.l0] at h
 | k + 1 => by
  have ih0 := cmd_path.mono_l k
  ·intro y0 y1 y2
   unfold cmd_path.l0
   repeat' first
   | (with_reducible exact ih0 _ _ _)
   | (with_reducible exact LeO.refl _)
   | (with_reducible exact LeO.none _)
   | (with_reducible refine LeO.ite ?_ ?_)
   | (with_reducible refine LeO.bind ?_ (fun _ => ?_))
   | exact ih0 _ _ _
   | exact LeO.none _
   | refine LeO.ite ?_ ?_
   | refine LeO.bind ?_ (fun _ => ?_)
theorem cmd_path.mono : ∀ a0 k, LeO (cmd_path.f k a0) (cmd_path.f (k + 1) a0) := by
 intro a0 k
 have ih0 := cmd_path.mono_l k
 unfold cmd_path.f
 repeat' first
   | (with_reducible exact ih0 _ _ _)
   | (with_reducible exact LeO.refl _)
   | (with_reducible exact LeO.none _)
   | (with_reducible refine LeO.ite ?_ ?_)
   | (with_reducible refine LeO.bind ?_ (fun _ => ?_))
   | exact ih0 _ _ _
   | exact LeO.none _
   | refine LeO.ite ?_ ?_
   | refine LeO.bind ?_ (fun _ => ?_)
set_option maxHeartbeats 8000000 in
set_option maxRecDepth 100000 in
theorem cmd_path.calls (k : Nat) (a0 : ByteArray) (r1 : ByteArray) (r2 : ByteArray) (r3 : Bool) (w : World) (h : cmd_path.f k a0 = some (r1, r2, r3)) :
  Calls Tryz.prog 44 #[.string a0] w fun e w' => e = .returned (.tuple #[.string r1, .string r2, .bool r3]) ∧ Below w.heap.size w w' := by
 have HB := Aside0.mk (Below.refl w.heap.size w)
 have H : (cmd_path.l0 k a0 (a0.size : Int) 0) = some (r1, r2, r3) := h
 clear h
 have H' := Aside0.mk H
 clear H
 go_enter Tryz.func44, Tryz.ntmps44
 go_wp2
 repeat (go_quiet (fail); try go_wp2)
 go_loopg [10] k (fun kq v10 w' => ∃ (x10_1 : Int), v10 = .int .i64 x10_1 ∧ Aside0 (cmd_path.l0 kq a0 (a0.size : Int) x10_1 = some (r1, r2, r3)) ∧ Aside0 (kq ≤ k) ∧ Aside0 (Below w.heap.size w w'))
 case atStart => exact ⟨(0), (by first | rfl | (simp; done) | (simp [*]; done)), H', ⟨Nat.le_refl _⟩, ⟨by repeat (first | (with_reducible first | exact HB.out | apply below_alloc | apply pw_below_drewN | apply below_drew1) | exact HB.out)⟩⟩
 case round =>
  clear H'
  obtain ⟨x10_1, rfl, HA, HK1, HB⟩ := hrel
  cases gk with
  | zero => exact absurd HA.out (by simp [cmd_path.l0])
  | succ k1 =>
   have H := HA.out
   clear HA
   simp only [cmd_path.l0] at H
   by_cases c2 : x10_1 < (a0.size : Int)
   ·rw [if_pos c2] at H
    have c2b0 : decide (x10_1 < (a0.size : Int)) = true := decide_eq_true c2
    clear c2
    by_cases c3 : 0 ≤ x10_1
    ·rw [if_pos c3] at H
     have c3b0 : decide (0 ≤ x10_1) = true := decide_eq_true c3
     clear c3
     by_cases c4 : x10_1 < (a0.size : Int)
     ·rw [if_pos c4] at H
      have c4b0 : decide (x10_1 < (a0.size : Int)) = true := decide_eq_true c4
      clear c4
      by_cases c6 : (bt a0 x10_1) = 62
      ·rw [if_pos c6] at H
       have c6b0 : ((bt a0 x10_1) == 62) = true := beq_iff_eq.mpr c6
       have c6b1 : ((bt a0 x10_1) != 62) = false := bne_eq_false_iff_eq.mpr c6
       clear c6
       obtain ⟨ji7, hji7⟩ : ∃ j_ : Int, (wrap64 (x10_1 + 1)) = j_ := ⟨_, rfl⟩
       replace H : (if 0 ≤ (ji7) then (if (ji7) ≤ (a0.size : Int) then ((addr_Unpath.f (a0.extract 0 ((ji7) : Int).toNat)).bind fun bt130 => (if bt130.2 = 0 then (some (bt130.1, a0.extract ((ji7) : Int).toNat a0.size, true)) else (cmd_path.l0 k1 a0 (a0.size : Int) ji7))) else (none)) else (none)) = some (r1, r2, r3) := by first | (rw [hji7] at H; exact H) | (simp only [hji7] at H ⊢; exact H)
       have hji7w : (IntKind.i64.wrap (x10_1 + 1)) = ji7 := (i64_w _).trans hji7
       by_cases c8 : 0 ≤ (ji7)
       ·rw [if_pos c8] at H
        have c8b0 := eq_true c8
        have c8b1 : decide (0 ≤ (ji7)) = true := decide_eq_true c8
        clear c8
        by_cases c9 : (ji7) ≤ (a0.size : Int)
        ·rw [if_pos c9] at H
         have c9b0 := eq_true c9
         have c9b1 : decide ((ji7) ≤ (a0.size : Int)) = true := decide_eq_true c9
         clear c9
         replace H := Option.bind_eq_some_iff.mp H
         obtain ⟨⟨t130, t131⟩, A100, H⟩ := H
         replace H : (if t131 = 0 then (some (t130, a0.extract ((ji7) : Int).toNat a0.size, true)) else (cmd_path.l0 k1 a0 (a0.size : Int) ji7)) = some (r1, r2, r3) := H
         have A10 := Aside0.mk A100
         clear A100
         by_cases c11 : t131 = 0
         ·rw [if_pos c11] at H
          have c11b0 : (t131 == 0) = true := beq_iff_eq.mpr c11
          have c11b1 : (t131 != 0) = false := bne_eq_false_iff_eq.mpr c11
          clear c11
          have c12b0 := eq_true (of_decide_eq_true (by first | (with_reducible assumption) | assumption) : 0 ≤ (ji7))
          have c13b0 := eq_true (of_decide_eq_true (by first | (with_reducible assumption) | assumption) : (ji7) ≤ (a0.size : Int))
          simp only [Option.some.injEq, Prod.mk.injEq] at H
          obtain ⟨rfl, rfl, rfl⟩ := H
          have p5 : 0 ≤ (x10_1 : Int) := of_decide_eq_true (by first | (with_reducible assumption) | assumption)
          have q5 : x10_1 < (a0.size : Int) := of_decide_eq_true (by first | (with_reducible assumption) | assumption)
          have hx5 := bt_at a0 x10_1
          replace p5 := eq_true p5
          replace q5 := eq_true q5
          go_wp2_with (first | (go_at_call 64; (with_reducible refine (addr_Unpath.calls (a0.extract 0 ((ji7) : Int).toNat) t130 t131 _ A10.out).mono ?_); rintro e w14 ⟨rfl, hb⟩; have n0_ := Aside0.mk (below_step (by repeat (first | (with_reducible first | exact HB.out | apply below_alloc | apply pw_below_drewN | apply below_drew1) | exact HB.out)) hb); clear HB; have HB := n0_; clear n0_; (try clear hb); (try clear hb2); (try clear hk); (try clear hi)))
          repeat (go_quiet (first | (go_at_call 64; (with_reducible refine (addr_Unpath.calls (a0.extract 0 ((ji7) : Int).toNat) t130 t131 _ A10.out).mono ?_); rintro e w14 ⟨rfl, hb⟩; have n0_ := Aside0.mk (below_step (by repeat (first | (with_reducible first | exact HB.out | apply below_alloc | apply pw_below_drewN | apply below_drew1) | exact HB.out)) hb); clear HB; have HB := n0_; clear n0_; (try clear hb); (try clear hb2); (try clear hk); (try clear hi))); try go_wp2_with (first | (go_at_call 64; (with_reducible refine (addr_Unpath.calls (a0.extract 0 ((ji7) : Int).toNat) t130 t131 _ A10.out).mono ?_); rintro e w14 ⟨rfl, hb⟩; have n0_ := Aside0.mk (below_step (by repeat (first | (with_reducible first | exact HB.out | apply below_alloc | apply pw_below_drewN | apply below_drew1) | exact HB.out)) hb); clear HB; have HB := n0_; clear n0_; (try clear hb); (try clear hb2); (try clear hk); (try clear hi))))
          go_ret3
          exact ⟨by first | rfl | (simp [errW_none, errW_some] <;> rfl) | (simp only [← hji7]; first | rfl | (simp [errW_none, errW_some] <;> rfl)) | (simp [*, errW_none, errW_some] <;> rfl), by repeat (first | (with_reducible first | exact HB.out | apply below_alloc | apply pw_below_drewN | apply below_drew1) | exact HB.out)⟩
         ·rw [if_neg c11] at H
          have c11b0 : (t131 == 0) = false := beq_eq_false_iff_ne.mpr c11
          have c11b1 : (t131 != 0) = true := bne_iff_ne.mpr c11
          have H' := Aside0.mk H
          clear H
          have p5 : 0 ≤ (x10_1 : Int) := of_decide_eq_true (by first | (with_reducible assumption) | assumption)
          have q5 : x10_1 < (a0.size : Int) := of_decide_eq_true (by first | (with_reducible assumption) | assumption)
          have hx5 := bt_at a0 x10_1
          replace p5 := eq_true p5
          replace q5 := eq_true q5
          go_wp2_with (first | (go_at_call 64; (with_reducible refine (addr_Unpath.calls (a0.extract 0 ((ji7) : Int).toNat) t130 t131 _ A10.out).mono ?_); rintro e w15 ⟨rfl, hb⟩; have n0_ := Aside0.mk (below_step (by repeat (first | (with_reducible first | exact HB.out | apply below_alloc | apply pw_below_drewN | apply below_drew1) | exact HB.out)) hb); clear HB; have HB := n0_; clear n0_; (try clear hb); (try clear hb2); (try clear hk); (try clear hi)))
          repeat (go_quiet (first | (go_at_call 64; (with_reducible refine (addr_Unpath.calls (a0.extract 0 ((ji7) : Int).toNat) t130 t131 _ A10.out).mono ?_); rintro e w15 ⟨rfl, hb⟩; have n0_ := Aside0.mk (below_step (by repeat (first | (with_reducible first | exact HB.out | apply below_alloc | apply pw_below_drewN | apply below_drew1) | exact HB.out)) hb); clear HB; have HB := n0_; clear n0_; (try clear hb); (try clear hb2); (try clear hk); (try clear hi))); try go_wp2_with (first | (go_at_call 64; (with_reducible refine (addr_Unpath.calls (a0.extract 0 ((ji7) : Int).toNat) t130 t131 _ A10.out).mono ?_); rintro e w15 ⟨rfl, hb⟩; have n0_ := Aside0.mk (below_step (by repeat (first | (with_reducible first | exact HB.out | apply below_alloc | apply pw_below_drewN | apply below_drew1) | exact HB.out)) hb); clear HB; have HB := n0_; clear n0_; (try clear hb); (try clear hb2); (try clear hk); (try clear hi))))
          go_roundg k1
          case measure => have := HK1.out; omega
          case rel => exact ⟨(ji7), (by first | rfl | (simp; done) | (simp only [← hji7] <;> (first | rfl | simp)) | (simp [*]; done)), H', ⟨by have := HK1.out; omega⟩, ⟨by repeat (first | (with_reducible first | exact HB.out | apply below_alloc | apply pw_below_drewN | apply below_drew1) | exact HB.out)⟩⟩
        ·rw [if_neg c9] at H
         exact absurd H (by simp)
       ·rw [if_neg c8] at H
        exact absurd H (by simp)
      ·rw [if_neg c6] at H
       have c6b0 : ((bt a0 x10_1) == 62) = false := beq_eq_false_iff_ne.mpr c6
       have c6b1 : ((bt a0 x10_1) != 62) = true := bne_iff_ne.mpr c6
       have H' := Aside0.mk H
       clear H
       have p5 : 0 ≤ (x10_1 : Int) := of_decide_eq_true (by first | (with_reducible assumption) | assumption)
       have q5 : x10_1 < (a0.size : Int) := of_decide_eq_true (by first | (with_reducible assumption) | assumption)
       have hx5 := bt_at a0 x10_1
       replace p5 := eq_true p5
       replace q5 := eq_true q5
       go_wp2
       repeat (go_quiet (fail); try go_wp2)
       go_roundg k1
       case measure => have := HK1.out; omega
       case rel => exact ⟨(wrap64 (x10_1 + 1)), (by first | rfl | (simp; done) | (simp [*]; done)), H', ⟨by have := HK1.out; omega⟩, ⟨by repeat (first | (with_reducible first | exact HB.out | apply below_alloc | apply pw_below_drewN | apply below_drew1) | exact HB.out)⟩⟩
     ·rw [if_neg c4] at H
      exact absurd H (by simp)
    ·rw [if_neg c3] at H
     exact absurd H (by simp)
   ·rw [if_neg c2] at H
    have c2b0 : decide (x10_1 < (a0.size : Int)) = false := decide_eq_false c2
    clear c2
    simp only [Option.some.injEq, Prod.mk.injEq] at H
    obtain ⟨rfl, rfl, rfl⟩ := H
    go_wp2
    repeat (go_quiet (fail); try go_wp2)
    go_ret3
    exact ⟨by first | rfl | (simp [errW_none, errW_some] <;> rfl) | (simp [*, errW_none, errW_some] <;> rfl), by repeat (first | (with_reducible first | exact HB.out | apply below_alloc | apply pw_below_drewN | apply below_drew1) | exact HB.out)⟩
end Go.Proofs.YtljkopbalejcgaaGreatDoor.P
end
section
set_option linter.unusedVariables false
set_option linter.unusedSimpArgs false
namespace Go.Proofs.YtljkopbalejcgaaGreatDoor.P
open Go Go.RowKit Go.Lib Go.Proofs.YtljkopbalejcgaaGreatDoorW.PrintWords Go.Proofs.YtljkopbalejcgaaGreatDoorW.PrintMore
theorem R_appendIn {α : Type} {F : Fence} {n : Nat} {P : Program} {ops : Array Oper} {rest : List Oper} {o : Oper} {a : Act} {Q : Exit → Act → World → Prop} (d : Kd α) {w0 W : World} (base : Nat) (hgd : o.guard = none) (s x : Operand) (t e : TypeId) (z : Value) (bytes : Nat)
  (ho : o.op = .call { callee := .builtin .append, args := #[s, x], argTypes := #[t, t] })
  (ht : P.underlying t = some (.slice e)) (hinfo : (P.info? e).map (fun i => (i.zero, i.size, i.bytes)) = some (some z, d.sz, bytes)) (hz : z.cells.size = d.sz) (hs0 : 0 < d.sz) (hb0 : 0 < bytes)
  (v : Value) (xs : List α) (p : α) (cs : List Value) (ok okp : Nat → Prop) (hs : a.eval s = v) (hx : a.eval x = .slice (some ⟨W.heap.size, 0, none⟩) 1 1) (hp : d.M W base okp p cs) (hokp : ∀ k, okp k → ok k ∧ some k ≠ v.ownBlock) (hfresh : ∀ k, W.heap.size ≤ k → ok k)
  (HO : d.R e W base ok v xs) (HB : Below base w0 W) (hbase : base ≤ W.heap.size) (hl : (xs.length + 1) * bytes ≤ 140737488355328)
  (h : ∀ v1 w1, d.R e w1 base ok v1 (xs ++ [p]) → Below base w0 w1 → W.grownBy w1 v.ownBlock → (v1.ownBlock = v.ownBlock ∨ ∃ b, v1.ownBlock = some b ∧ W.heap.size ≤ b) → wpListIn F n P ops Q rest (a.put o.dst v1) w1) :
  wpListIn F n P ops Q (o :: rest) a (W.alloc (.cells cs.toArray e)) := by
 obtain ⟨h0, inner, hown, hr⟩ := HO
 obtain ⟨i0, hi, hzz⟩ := Option.map_eq_some_iff.1 hinfo
 simp only [Prod.mk.injEq] at hzz
 obtain ⟨hz0, hz1, hz2⟩ := hzz
 have hys := d.K_len (d.K_of_M hp)
 have h1 := d.K_one (d.K_of_M hp)
 have hlen : xs.length + 1 ≤ 140737488355328 := Nat.le_trans (Nat.le_mul_of_pos_right _ hb0) hl
 refine wpListIn_plain hgd fun K hK' => ?_
 obtain ⟨v', w', hrun, r1, r2, r3, r4⟩ := run_append_own_at (P := P) (W.alloc (.cells cs.toArray e)) base t o.type e i0 z d.sz bytes ht hi hz0 hz1 hz2 hz hs0 v xs.length inner (hown.alloc _) ⟨W.heap.size, 0, none⟩ 1 1 cs (by rw [hys]; simp)
  (by simpa using World.news_of_block (cs := cs.toArray) (t := e) (fr := (0, 0)) (heap_alloc_new W (.cells cs.toArray e))) h1 (by simp only [maxLen]; omega) hl (by simp; omega)
 have hg : W.grownBy w' v.ownBlock := World.grownBy.trans (World.grownBy_alloc W _ _) r2
 have hat : v'.ownBlock = v.ownBlock ∨ ∃ b, v'.ownBlock = some b ∧ W.heap.size ≤ b := by
  rcases r4 with r4 | r4
  ·exact .inl r4
  ·exact .inr ⟨_, r4, by simp⟩
 unfold Oper.wpIn
 refine ⟨?_, ?_⟩
 ·simp [Oper.about, ho, resolve, Target.leads, Sem.run_pure]
 ·rw [Oper.semAt_plain F _ _ (by rw [ho]; intro c hc'; cases hc')]
  simp [execOp, ho, resolve, invoke, builtin, hs, hx, hrun, Result.andThen]
  exact hK' _ _ (h v' w' (Kd.R_appended h0 hr hp hokp hfresh r1 hg hat) ((HB.alloc hbase _).grown r2 (by simp; omega) (own_base hown)) hg hat)
theorem R_grown {α : Type} {d : Kd α} {e base : Nat} {ok : Nat → Prop} {W W' : World} {v : Value} {xs : List α} {row : Option Nat} (hE : d.E = []) (h : d.R e W base ok v xs) (hg : W.grownBy W' row)
  (hr : ∀ r, row = some r → (¬ ok r) ∨ (∃ o : Obj, W.heap[r]? = some o ∧ o.isCells = false)) : d.R e W' base ok v xs := by
 cases row with
 | none => exact Kd.R_step h (fun k _ hk => hg.block k hk (by simp))
 | some r =>
  rcases hr r rfl with hr | ⟨o, ho, hc⟩
  ·exact Kd.R_step h (fun k hok hk => hg.block k hk (fun e => by cases e; exact hr hok))
  ·have hne : some r ≠ v.ownBlock := by
    obtain ⟨inner, hown⟩ := Kd.R_own h
    intro e'
    rcases hown.2 with ⟨hv, _⟩ | ⟨g', cap, cur, hv, _, hh, _⟩
    ·rw [hv] at e'; simp [Value.ownBlock] at e'
    ·rw [hv] at e'
     have : r = g' := by simpa [Value.ownBlock] using e'
     subst this
     rw [ho] at hh; cases hh; simp [Obj.isCells] at hc
   exact Kd.R_mono (Kd.R_step (Kd.R_far1 h hE hne) (fun k hok hk => hg.block k hk (fun e => by cases e; exact hok.2 rfl))) (fun _ hk => hk.1)
end Go.Proofs.YtljkopbalejcgaaGreatDoor.P
end
section
set_option linter.unusedVariables false
set_option linter.unusedSimpArgs false
namespace Go.Proofs.YtljkopbalejcgaaGreatDoor.P
open Go Go.RowKit
theorem grown_of_below' {w w' : World} (h : Below w.heap.size w w') : w.grownBy w' none := ⟨h.os, h.tape, h.output, h.size, fun k hk _ => h.block k hk⟩
theorem wpIn_rangeB2 {α : Type} {P : Program} {g : Operand} {ps : Array Tmp} {assign body : Code} {Q : Exit → Act → World → Prop} {a : Act} {w : World}
  {gf : Nat} {lb : Array Value} (hg : a.eval g = .func (.func gf) #[] lb) (eg : ∀ args w, (callFunc gf args).run P w = .ok (.enter gf args) w)
  {encs : α → Array Value} {xs : List α} {B : Nat} {Pre : World → Prop} (hseq : IterB P gf lb encs xs B Pre) (hB : B < w.heap.size)
  (hPre : ∀ W, Below w.heap.size w W → Pre W) (hps : ∀ x, (encs x).size = ps.size)
  (I : Nat → World → Prop) (Ix : Code → Nat → World → Prop) (hI : OwnB w.heap.size B I) (hIx : ∀ c, OwnB w.heap.size B (Ix c)) (h0 : I 0 w) (G : α → Act → World → Prop) (hG : ∀ x a', OwnB w.heap.size B (fun (_ : Unit) W => G x a' W))
  (hassign : ∀ (l : Nat) (x : α) (W : World) (K : Act → World → Prop), w.heap.size ≤ W.heap.size → (∀ a' W', Below W.heap.size W W' → G x a' W' → K a' W') →
   assign.wpIn (Fence.wide.inRound l) 0 P (Exit.then K (fun _ _ _ => False)) { tmps := (ps.zip (encs x)).foldl (fun t (p, v) => t.setIfInBounds p v) a.tmps, defers := [] } W)
  (hbody : ∀ (l i : Nat) (hi : i < xs.length) (a' : Act) (W : World), w.heap.size ≤ W.heap.size → I i W → G xs[i] a' W → body.wpIn (Fence.wide.inRound l) 0 P (postB w.heap.size B I Ix (i + 1) W) a' W)
  (hdone : ∀ (D : Nat) (W : World), w.heap.size ≤ D → I xs.length W → W.heap[D]? = some (.deferred (some [])) → Q .normal { a with defers := { target := .collected D, args := #[] } :: a.defers } W)
  (hstop : ∀ (D : Nat) (c : Code) (i : Nat) (W : World), w.heap.size ≤ D → i ≤ xs.length → Ix c i W → W.heap[D]? = some (.deferred (some [])) → c.wpIn Fence.wide 0 P Q { a with defers := { target := .collected D, args := #[] } :: a.defers } W) :
  (Code.rangeFunc g ps assign body).wpIn Fence.wide 0 P Q a w := by
 refine wpIn_rangeFunc ?_
 intro fn hfn
 rw [Fence.wide_round]
 obtain ⟨rec, hrec⟩ : ∃ rec : LoopState → Option Code → Loop, rec = fun st pe => { state := st, pending := pe, fn, tmps := a.tmps, params := ps, assign, body, defers := w.heap.size } := ⟨_, rfl⟩
 obtain ⟨W1, hW1⟩ : ∃ W1, (w.alloc (.deferred (some []))).alloc (.loop (rec .ready none)) = W1 := ⟨_, rfl⟩
 have hsz1 : W1.heap.size = w.heap.size + 2 := by rw [← hW1]; simp
 have hL1 : W1.heap[w.heap.size + 1]? = some (.loop (rec .ready none)) := by
  rw [← hW1]; have := World.alloc_heap_new (w.alloc (.deferred (some []))) (.loop (rec .ready none)); rwa [World.size_alloc] at this
 have hK1 : W1.heap[w.heap.size]? = some (.deferred (some [])) := by
  rw [← hW1]; exact (Below.heap_alloc _ _ _ (by simp)).trans (World.alloc_heap_new w _)
 have hI1 : I 0 W1 := by rw [← hW1]; exact hI.alloc _ (hI.alloc _ h0)
 have hb1 : Below w.heap.size w W1 := by
  rw [← hW1]; exact ((Below.refl _ w).alloc (Nat.le_refl _) _).alloc (by simp) _
 have hne : ∀ {A A' : World} {k : Nat} {o : Obj}, A.grownBy A' (some B) → w.heap.size ≤ k → A.heap[k]? = some o → A'.heap[k]? = some o := fun hg' hk ho =>
  (hg'.block _ (Array.getElem?_eq_some_iff.1 ho).1 (fun e => by cases e; omega)).trans ho
 refine ⟨w.heap.size + 1, [{ target := .collected w.heap.size, args := #[] }], W1, { target := .fn (.func gf) lb, args := #[.func (.yield (w.heap.size + 1)) #[] #[]] }, W1, gf,
  #[.func (.yield (w.heap.size + 1)) #[] #[]] ++ lb, W1, ?_, ?_, fun _ _ => trivial, ?_, fun h => absurd h (by simp [Fence.wide]), ?_⟩
 ·rw [← hW1, hrec]; exact run_enterLoop_outer _ _ _ _ _
 ·simp only [resolve, hg]
  simp [go_sem]
 ·simp [invoke, go_sem, eg]
 ·refine (hseq (w.heap.size + 1)
   (fun i W => I i W ∧ w.heap.size + 2 ≤ W.heap.size ∧ W.heap[w.heap.size + 1]? = some (.loop (rec .ready none)) ∧ W.heap[w.heap.size]? = some (.deferred (some [])))
   (fun i W => ∃ c, Ix c i W ∧ W.heap[w.heap.size + 1]? = some (.loop (rec .done (some c))) ∧ W.heap[w.heap.size]? = some (.deferred (some [])))
   W1 (hPre W1 hb1)
   (fun i A A' hs hg' => ⟨hI i A A' (some B) hs.1 hg' (fun r e => by cases e; exact .inl rfl), Nat.le_trans hs.2.1 hg'.size, hne hg' (by omega) hs.2.2.1, hne hg' (Nat.le_refl _) hs.2.2.2⟩)
   (fun i A A' hs hg' => by
    obtain ⟨c, hc, hl, hk⟩ := hs
    exact ⟨c, hIx c i A A' (some B) hc hg' (fun r e => by cases e; exact .inl rfl), hne hg' (by omega) hl, hne hg' (Nat.le_refl _) hk⟩)
   ?_ ⟨hI1, by omega, hL1, hK1⟩).mono ?_
  ·rintro i hi W ⟨hin, hsz, hl, hk⟩
   have hlt : w.heap.size + 1 < W.heap.size := (Array.getElem?_eq_some_iff.1 hl).1
   have hy := run_yield (P := P) (args := encs xs[i]) hl (by rw [hrec]; exact hps xs[i])
   rw [hrec] at hy
   refine ⟨fn, _, assign, body, hy, roundIn_of_wpIn hfn (hassign _ xs[i] W _ (by omega) (fun a' W' hbW hgW => ⟨_, run_beginRound (show W'.heap[w.heap.size + 1]? = some (.loop (rec .ready none)) from (hbW.block _ hlt).trans hl) (by rw [hrec]), ?_⟩))⟩
   have hl' : W'.heap[w.heap.size + 1]? = some (.loop (rec .ready none)) := (hbW.block _ hlt).trans hl
   have hlt' : w.heap.size + 1 < W'.heap.size := (Array.getElem?_eq_some_iff.1 hl').1
   have hin' : I i W' := hI _ _ _ none hin (grown_of_below' hbW) (fun r e => by cases e)
   have hl2 : (W'.putObj (w.heap.size + 1) (.loop { rec .ready none with state := .busy })).heap[w.heap.size + 1]? = some (.loop { rec .ready none with state := .busy }) := World.putObj_heap_same hlt'
   have hk2 : (W'.putObj (w.heap.size + 1) (.loop { rec .ready none with state := .busy })).heap[w.heap.size]? = some (.deferred (some [])) := (World.putObj_heap_other (by omega)).trans ((hbW.block _ (by omega)).trans hk)
   have hB2 : (W'.putObj (w.heap.size + 1) (.loop { rec .ready none with state := .busy })).heap[B]? = W.heap[B]? := (World.putObj_heap_other (by omega)).trans (hbW.block _ (by omega))
   refine wpIn_mono (hbody _ i hi a' _ (by simp; omega) (hI.putObj _ hin' (by omega) hl' rfl) ((hG xs[i] a').putObj (s := ()) _ hgW (by omega) hl' rfl)) ?_
   have fin : ∀ (jump : Option Code) (W3 : World), KeepsFrom w.heap.size (W'.putObj (w.heap.size + 1) (.loop { rec .ready none with state := .busy })) W3 →
     (Instr.endRound (w.heap.size + 1) jump).run P W3 = .ok (.bool jump.isNone) (W3.putObj (w.heap.size + 1) (.loop (rec (if jump.isNone then .ready else .done) jump))) ∧
     W3.heap[w.heap.size + 1]? = some (.loop { rec .ready none with state := .busy }) ∧
     (W3.putObj (w.heap.size + 1) (.loop (rec (if jump.isNone then .ready else .done) jump))).heap[w.heap.size + 1]? = some (.loop (rec (if jump.isNone then .ready else .done) jump)) ∧
     (W3.putObj (w.heap.size + 1) (.loop (rec (if jump.isNone then .ready else .done) jump))).heap[w.heap.size]? = some (.deferred (some [])) := fun jump W3 hk3 => by
    have hl3 := hk3.same _ _ (by omega) hl2 rfl
    have := run_endRound (P := P) jump hl3
    rw [hrec] at this ⊢
    exact ⟨this, by rw [hrec] at hl3; exact hl3, World.putObj_heap_same (Array.getElem?_eq_some_iff.1 hl3).1, (World.putObj_heap_other (by omega)).trans (hk3.same _ _ (Nat.le_refl _) hk2 rfl)⟩
   rintro e a3 W3 hp
   cases e with
   | normal =>
    obtain ⟨hk3, hb3, hi3⟩ := hp
    obtain ⟨hr, hl3, hl4, hk4⟩ := fin none W3 hk3
    have hs3 : W.heap.size ≤ W3.heap.size := by have := hk3.size; have h2 := hbW.size; simp at this; omega
    exact ⟨_, _, hr, .inl ⟨rfl, ⟨hI.putObj _ hi3 (by omega) hl3 rfl, by simp; omega, hl4, hk4⟩, by simpa using hs3, (World.putObj_heap_other (by omega)).trans (hb3.trans hB2)⟩⟩
   | ret =>
    obtain ⟨hk3, hi3⟩ := hp
    obtain ⟨hr, hl3, hl4, hk4⟩ := fin (some .ret) W3 hk3
    exact ⟨_, _, hr, .inr ⟨rfl, .ret, (hIx _).putObj _ hi3 (by omega) hl3 rfl, hl4, hk4⟩⟩
   | exit id =>
    obtain ⟨hk3, hi3⟩ := hp
    obtain ⟨hr, hl3, hl4, hk4⟩ := fin (some (.exit id)) W3 hk3
    exact ⟨_, _, hr, .inr ⟨rfl, .exit id, (hIx _).putObj _ hi3 (by omega) hl3 rfl, hl4, hk4⟩⟩
   | goto t =>
    obtain ⟨hk3, hi3⟩ := hp
    obtain ⟨hr, hl3, hl4, hk4⟩ := fin (some (.goto t)) W3 hk3
    exact ⟨_, _, hr, .inr ⟨rfl, .goto t, (hIx _).putObj _ hi3 (by omega) hl3 rfl, hl4, hk4⟩⟩
   | panic ch => exact hp.elim
   | outgrown => exact hp.elim
  ·rintro e W2 ⟨⟨v, rfl⟩, (⟨hi, _, hl, hk⟩ | ⟨i, hle, c, hi, hl, hk⟩)⟩
   ·exact ⟨none, _, by have := run_endLoop (P := P) hl (by rw [hrec]; simp); rw [hrec] at this; exact this, hdone _ _ (Nat.le_refl _) (hI.putObj _ hi (by omega) hl rfl) ((World.putObj_heap_other (by omega)).trans hk)⟩
   ·exact ⟨some c, _, by have := run_endLoop (P := P) hl (by rw [hrec]; simp); rw [hrec] at this; exact this, hstop _ c i _ (Nat.le_refl _) hle ((hIx c).putObj _ hi (by omega) hl rfl) ((World.putObj_heap_other (by omega)).trans hk)⟩
end Go.Proofs.YtljkopbalejcgaaGreatDoor.P
end
