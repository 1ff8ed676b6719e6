/- The statement FnExactKeyParse (the program's KeyParse returns what the reference's returns): for every text the law returns true. No condition of ours; the listed tables (the flags' names, and tables of packages unicode, utf8, strconv, bits) read as the text lays them (the card ties that). -/
import Derived.Test.YtoleonldkifcbaaGreatDoorKN
import Derived.Test.YtoleonldkifcbaaGreatDoorKC
namespace Go.Proofs.YtoleonldkifcbaaGreatDoor
open Go.RowKit

set_option maxHeartbeats 4000000 in
set_option maxRecDepth 100000 in
theorem wFnExactKeyParse (sx : ByteArray) (m : Int) (w : World) (hm : w.cell? ⟨1, 0, none⟩ = some (.int .i64 m)) (hF : FlagsAt w) :
    Calls Tryz.prog 6 #[.string sx] w fun e w' => e = .returned (.bool true) ∧ Kept [] w w' := by
  obtain ⟨t, rfl⟩ : ∃ t, sx = bs t := ⟨sx.data.toList, by rw [← toList_inj]; simp⟩
  have HM := hid hm
  have HF := hid hF
  clear hm hF
  by_cases hbig : (1048576 : Int) < t.length
  · go_enter Tryz.func6, Tryz.ntmps6
    go_wp2
    go_ret
    exact ⟨rfl, Kept.refl _ _⟩
  have ht : t.length ≤ 1048576 := by omega
  have hfl : 0 < w.heap.size := lt_of_cell HF.out.1
  have hml : 1 < w.heap.size := lt_of_cell HM.out
  have HFK := hid (fun W (bs : List Nat) (hW : Kept bs w W) (hb : ∀ c ∈ bs, w.heap.size ≤ c) => HF.out.kept hW (fun e => by have := hb _ e; omega))
  have HMK := hid (fun W (bs : List Nat) (hW : Kept bs w W) (hb : ∀ c ∈ bs, w.heap.size ≤ c) => hW.cell_some HM.out (fun e => by have := hb _ e; dsimp only at this; omega))
  have htb : t.length + 8 ≤ bigN - 1 := by unfold bigN; omega
  obtain ⟨K, hKq⟩ : ∃ K, (keyI t).getD kyNone = K := ⟨_, rfl⟩
  obtain ⟨ob, hob⟩ : ∃ ob, (keyI t).isSome = ob := ⟨_, rfl⟩
  have HPI := hid (fun W (bs : List Nat) (hW : Kept bs w W) (hb : ∀ c ∈ bs, w.heap.size ≤ c) => (iKeyParse_any t m W (by omega) (HFK.out W bs hW hb) (HMK.out W bs hW hb)).mono (fun e w' h => parse_res h hKq hob))
  have HPS := hid (fun W => (sKeyParse_any t W (by omega)).mono (fun e w' h => parse_res (by rw [← key_same] at h; exact h) hKq hob))
  have HNN := hid (few_marks t K hKq)
  clear hKq hob hfl hml htb ht HFK HMK
  have htl : ¬ (1048576 : Int) < (bs t).size := by rw [bs_size]; exact hbig
  go_enter Tryz.func6, Tryz.ntmps6
  have KK := hid (Kept.refl [] w)
  go_wp2_with fail
  refine (HPS.out _).mono ?_
  rintro e w2 ⟨p1, p2, p3, q1, q2, q3, rfl, hK, hX⟩
  replace KK := hid (KK.out.trans hK)
  clear hK
  have hw2 := KK.out.size
  have HXS := hid hX
  have K2 := hid (Kept.refl [] w2)
  clear hX
  have HA := hid (new_block w2 (Obj.cells #[.int .i64 K.kind, .int .i64 K.flag, .string (bs K.text), .slice p1 p2 p3, .slice q1 q2 q3] 26))
  replace KK := hid (KK.out.alloc (Obj.cells #[.int .i64 K.kind, .int .i64 K.flag, .string (bs K.text), .slice p1 p2 p3, .slice q1 q2 q3] 26))
  replace K2 := hid (K2.out.alloc (Obj.cells #[.int .i64 K.kind, .int .i64 K.flag, .string (bs K.text), .slice p1 p2 p3, .slice q1 q2 q3] 26))
  go_wp2_with fail
  refine (HPI.out _ [] KK.out (by simp)).mono ?_
  rintro e w3 ⟨x1, x2, x3, y1, y2, y3, rfl, hK, hX⟩
  have HX := hid hX
  have hsz := hK.size
  replace HA := hid (hK.same HA.out (by simp))
  replace KK := hid (KK.out.trans hK)
  replace K2 := hid (K2.out.trans hK)
  have K3 := hid (Kept.refl [] w3)
  clear hK hX
  replace HA := hid (alloc_block HA.out (Obj.cells #[.int .i64 K.kind, .int .i64 K.flag, .string (bs K.text), .slice x1 x2 x3, .slice y1 y2 y3] 26))
  have HB := hid (new_block w3 (Obj.cells #[.int .i64 K.kind, .int .i64 K.flag, .string (bs K.text), .slice x1 x2 x3, .slice y1 y2 y3] 26))
  replace KK := hid (KK.out.alloc (Obj.cells #[.int .i64 K.kind, .int .i64 K.flag, .string (bs K.text), .slice x1 x2 x3, .slice y1 y2 y3] 26))
  replace K2 := hid (K2.out.alloc (Obj.cells #[.int .i64 K.kind, .int .i64 K.flag, .string (bs K.text), .slice x1 x2 x3, .slice y1 y2 y3] 26))
  replace K3 := hid (K3.out.alloc (Obj.cells #[.int .i64 K.kind, .int .i64 K.flag, .string (bs K.text), .slice x1 x2 x3, .slice y1 y2 y3] 26))
  have HSI := hid (fun W bs (hW : Kept bs w2 W) (hb : ∀ c ∈ bs, w2.heap.size ≤ c) => KeyIn.low (Nat.zero_le _) K _ _ (KeyX.in_ K _ _ (KeyX.kept hW (fun c hc => .inr (hb c hc)) K _ _ HXS.out)))
  have HEQ := hid (eqKey_self K _ _ _ _ _ (KeyIn.low (Nat.zero_le _) K _ _ (KeyX.in_ K _ _ (KeyX.kept K3.out (by simp) K _ _ HX.out))) (HSI.out _ [] K2.out (by simp)))
  have hb := HA.out
  have a0 := cell_of_block hb 0
  have a1 := cell_of_block hb 1
  have a2 := cell_of_block hb 2
  have a3 := cell_of_block hb 3
  have a4 := cell_of_block hb 4
  simp at a0 a1 a2 a3 a4
  have la := lt_of_block hb
  clear hb
  have hb := HB.out
  have b0 := cell_of_block hb 0
  have b1 := cell_of_block hb 1
  have b2 := cell_of_block hb 2
  have b3 := cell_of_block hb 3
  have b4 := cell_of_block hb 4
  simp at b0 b1 b2 b3 b4
  have lb := lt_of_block hb
  clear hb
  go_wp2_with fail
  refine HEQ.out.mono ?_
  rintro e w4 ⟨rfl, hK⟩
  clear a0 a1 a2 a3 a4 la
  clear b0 b1 b2 b3 b4 lb
  replace HA := hid (hK.same HA.out (by simp))
  replace HB := hid (hK.same HB.out (by simp))
  replace KK := hid (KK.out.trans hK)
  replace K2 := hid (K2.out.trans hK)
  replace K3 := hid (K3.out.trans hK)
  clear hK HEQ
  have hlo : w2.heap.size + 1 ≤ w3.heap.size := by simpa using hsz
  have hBl := lt_of_block HB.out
  have HMKC := hid (show Calls Tryz.prog 15 #[(.agg #[.int .i64 K.kind, .int .i64 K.flag, .string (bs K.text), .slice x1 x2 x3, .slice y1 y2 y3]), .int .i64 1] w4 _ from markKey_any _ _ 1 K _ _ w4 (KeyX.kept K3.out (by simp) K _ _ HX.out) (by omega) (by omega) HNN.out)
  have hb := HA.out
  have a0 := cell_of_block hb 0
  have a1 := cell_of_block hb 1
  have a2 := cell_of_block hb 2
  have a3 := cell_of_block hb 3
  have a4 := cell_of_block hb 4
  simp at a0 a1 a2 a3 a4
  have la := lt_of_block hb
  clear hb
  have hb := HB.out
  have b0 := cell_of_block hb 0
  have b1 := cell_of_block hb 1
  have b2 := cell_of_block hb 2
  have b3 := cell_of_block hb 3
  have b4 := cell_of_block hb 4
  simp at b0 b1 b2 b3 b4
  have lb := lt_of_block hb
  clear hb
  go_wp2_with fail
  refine HMKC.out.mono ?_
  rintro e w5 ⟨rfl, hX, cs, hcs, hK⟩
  have hcs : ∀ c ∈ cs, w2.heap.size + 1 ≤ c ∧ c < w3.heap.size := fun c hc => by have := hcs c hc; simp at this; omega
  clear a0 a1 a2 a3 a4 la
  clear b0 b1 b2 b3 b4 lb
  replace HA := hid (hK.same HA.out (fun e => by have := hcs _ e; omega))
  replace HB := hid (hK.same HB.out (fun e => by have := hcs _ e; omega))
  have HCS := hid hcs
  have HHX := hid (fun W (hW : Kept [] w5 W) => KeyIn.low (Nat.zero_le _) _ _ _ (KeyX.in_ _ _ _ (KeyX.kept hW (by simp) (markTop 1 K) _ _ hX)))
  have KW : Kept cs w w5 := KK.out.nil.trans hK
  have K2W : Kept cs w2 w5 := K2.out.nil.trans hK
  have HKW := hid KW
  have HK2W := hid K2W
  have HHC := hid (fun W (hW : Kept [] w5 W) => show Calls Tryz.prog 16 #[(.agg #[.int .i64 K.kind, .int .i64 K.flag, .string (bs K.text), .slice x1 x2 x3, .slice y1 y2 y3]), .int .i64 1] W (fun e w' => e = .returned (.int .i64 ((1 + 2 * K.set.length + cntL K.keys : Nat) : Int)) ∧ Kept [] W w') from heldKey_any 1 K K.kind K.flag (bs K.text) _ _ W (HHX.out W hW).parts.2.1 (HHX.out W hW).row (by omega) HNN.out)
  clear hX hK hcs KW K2W HMKC KK K2 K3 hBl
  have hn0 : ¬ ((1 + 2 * K.set.length + cntL K.keys : Nat) : Int) < 0 := by omega
  generalize 1 + 2 * K.set.length + cntL K.keys = nn at HHC hn0 ⊢
  have KK := hid (Kept.refl [] w5)
  have hb := HB.out
  have b0 := cell_of_block hb 0
  have b1 := cell_of_block hb 1
  have b2 := cell_of_block hb 2
  have b3 := cell_of_block hb 3
  have b4 := cell_of_block hb 4
  simp at b0 b1 b2 b3 b4
  have lb := lt_of_block hb
  clear hb
  go_wp2_with fail
  refine (HHC.out _ KK.out).mono ?_
  rintro e w6 ⟨rfl, hK⟩
  clear b0 b1 b2 b3 b4 lb
  replace HA := hid (hK.same HA.out (by simp))
  replace HB := hid (hK.same HB.out (by simp))
  replace KK := hid (KK.out.trans hK)
  clear hK
  go_wp2_with fail
  refine (HPI.out _ cs (HKW.out.trans KK.out.nil) (fun c hc => by have := HCS.out c hc; omega)).mono ?_
  rintro e w7 ⟨u1, u2, u3, z1, z2, z3, rfl, hK, hX⟩
  have K7 := hid (Kept.refl [] w7)
  have HX7 := hid hX
  replace HA := hid (hK.same HA.out (by simp))
  replace HB := hid (hK.same HB.out (by simp))
  replace KK := hid (KK.out.trans hK)
  clear hK hX
  replace HA := hid (alloc_block HA.out (Obj.cells #[.int .i64 K.kind, .int .i64 K.flag, .string (bs K.text), .slice u1 u2 u3, .slice z1 z2 z3] 26))
  replace HB := hid (alloc_block HB.out (Obj.cells #[.int .i64 K.kind, .int .i64 K.flag, .string (bs K.text), .slice u1 u2 u3, .slice z1 z2 z3] 26))
  have HC := hid (new_block w7 (Obj.cells #[.int .i64 K.kind, .int .i64 K.flag, .string (bs K.text), .slice u1 u2 u3, .slice z1 z2 z3] 26))
  replace KK := hid (KK.out.alloc (Obj.cells #[.int .i64 K.kind, .int .i64 K.flag, .string (bs K.text), .slice u1 u2 u3, .slice z1 z2 z3] 26))
  replace K7 := hid (K7.out.alloc (Obj.cells #[.int .i64 K.kind, .int .i64 K.flag, .string (bs K.text), .slice u1 u2 u3, .slice z1 z2 z3] 26))
  have HEQ := hid (eqKey_self K _ _ _ _ _ (KeyIn.low (Nat.zero_le _) K _ _ (KeyX.in_ K _ _ (KeyX.kept K7.out (by simp) K _ _ HX7.out))) (HSI.out _ cs (HK2W.out.trans KK.out.nil) (fun c hc => by have := HCS.out c hc; omega)))
  have hb := HA.out
  have a0 := cell_of_block hb 0
  have a1 := cell_of_block hb 1
  have a2 := cell_of_block hb 2
  have a3 := cell_of_block hb 3
  have a4 := cell_of_block hb 4
  simp at a0 a1 a2 a3 a4
  have la := lt_of_block hb
  clear hb
  have hb := HC.out
  have c0 := cell_of_block hb 0
  have c1 := cell_of_block hb 1
  have c2 := cell_of_block hb 2
  have c3 := cell_of_block hb 3
  have c4 := cell_of_block hb 4
  simp at c0 c1 c2 c3 c4
  have lc := lt_of_block hb
  clear hb
  go_wp2_with fail
  refine HEQ.out.mono ?_
  rintro e w8 ⟨rfl, hK⟩
  clear a0 a1 a2 a3 a4 la
  clear c0 c1 c2 c3 c4 lc
  replace HA := hid (hK.same HA.out (by simp))
  replace HB := hid (hK.same HB.out (by simp))
  replace HC := hid (hK.same HC.out (by simp))
  replace KK := hid (KK.out.trans hK)
  clear hK HEQ
  have hb := HB.out
  have b0 := cell_of_block hb 0
  have b1 := cell_of_block hb 1
  have b2 := cell_of_block hb 2
  have b3 := cell_of_block hb 3
  have b4 := cell_of_block hb 4
  simp at b0 b1 b2 b3 b4
  have lb := lt_of_block hb
  clear hb
  go_wp2_with fail
  refine (HHC.out _ KK.out).mono ?_
  rintro e w9 ⟨rfl, hK⟩
  replace KK := hid (KK.out.trans hK)
  clear hK
  clear b0 b1 b2 b3 b4 lb
  go_wp2
  go_ret
  exact ⟨rfl, HKW.out.trans' KK.out (ds := []) (fun x e hx => by have := HCS.out x e; omega) (by simp)⟩
end Go.Proofs.YtoleonldkifcbaaGreatDoor
namespace Go.Proofs.YtoleonldkifcbaaGreatDoor.fnExactKeyParse
open Go.ChangeShapes Go.WideShapes Go.ChangeAt Go.RowKit
set_option maxRecDepth 100000

theorem contract (H : Type) (enc : TypeId × Value → H) (W : World) (base : Nat) (args : Array Value) (ds gs : List (DataW H)) (before : List MemPlace)
    (hval : ∀ (j : Nat) t v, Tryz.f6.params[j]? = some t → args[j]? = some v → Value.okWide Tryz.prog W .any base t v)
    (hW : DataW.Whole enc Tryz.prog Tryz.f6.params.toList Rows.fnExactKeyParseSpec.vars false W args.toList ds gs before) (hsh : W.ShapedOpen Tryz.prog) (hF : FlagsAt W) :
    Calls Tryz.prog 6 args W fun e W' => ∃ v, e = .returned v ∧ Rows.fnExactKeyParseSpec.post enc Tryz.prog Tryz.f6 false true false false W args v W' :=
  contractT 6 Tryz.f6 Rows.fnExactKeyParseSpec Tryz.params6 rfl rfl (fun _ _ _ => rfl) wFnExactKeyParse H enc W base args ds gs before hval hW hsh hF
theorem reads (os : Os) {H : Type} (enc : TypeId × Value → H) : (DataW.whole enc Tryz.prog ((laidWorld os).forCall (fun _ _ => 0) ⟨#[], #[.string ⟨#[]⟩], []⟩).memory Tryz.f6.params.toList Rows.fnExactKeyParseSpec.vars false (#[.string ⟨#[]⟩] : Array Value).toList 8).map (fun x => (x.1, x.2.1)) = some ([.lit (.string [])], [Rows.laid_loop_example_mailhost_impl_flagNames]) := by kernel_rfl
theorem lifted (os : Os) (started : os.Started) (H : Type) (enc : TypeId × Value → H) (F : Stop.Interp) :
    ReturnsInHanded {} Tryz.checked os 6 .any ((OpenSpec.ofChange Rows.fnExactKeyParseSpec).preRow enc Tryz.prog Tryz.f6 Rows.fnExactKeyParseRow.domain false Rows.fnExactKeyParseRow.laid) (((OpenSpec.ofChange Rows.fnExactKeyParseSpec).at F).post enc Tryz.prog Tryz.f6 false true false false) := by
  obtain ⟨⟨x1, x2, x3⟩, hx, hx1⟩ := Option.map_eq_some_iff.1 (reads os enc)
  simp only [Prod.mk.injEq] at hx1
  obtain ⟨rfl, rfl⟩ := hx1
  refine returnsInHanded_of_row (C := Tryz.checked) (s := OpenSpec.ofChange Rows.fnExactKeyParseSpec) own started (by kernel_rfl) Tryz.func6
    (witness_row_atRef (enc := enc) (C := Tryz.checked) false (laidWorld os) #[.string ⟨#[]⟩] rfl (by kernel_rfl) (by kernel_rfl) (by kernel_rfl)
      (OpenSpec.preRow_of_cond 8 hx (by kernel_rfl) (fun k hk => by cases hk) (by kernel_rfl) (laid_met os _))) ?_
  intro W base args ds gs before hval hW _ _ _ hL hsh _
  exact contract H enc W base args ds gs before hval hW hsh (flags_of hL)
theorem said : Rows.FnExactKeyParseSaid :=
  OpenClaim.holds_of_cond 6 Tryz.f6 rfl rfl rfl rfl rfl rfl rfl ⟨rfl, rfl, rfl, rfl, rfl⟩ rfl rfl rfl rfl rfl (by kernel_rfl) Tryz.func6 (by kernel_rfl)
    (of_decide_eq_true (by kernel_rfl)) (by unfold Func.isWrapper; first | (rw [if_pos (by decide +kernel)]; kernel_rfl) | (rw [if_neg (by decide +kernel)]; exact ⟨rfl, rfl⟩))
    (fun os started H enc _ F => by rw [OpenClaim.pre_eq_preRow]; exact lifted os started H enc F)
/-- No parameter wants a stand-in; the program's own looks are off. -/
theorem plain (f : FuncId) (fn : Func) (hf : Tryz.pinned.checked.prog.funcNamed "loop.example/mailhost/laws.FnExactKeyParse" = some f) (hfn : Tryz.pinned.checked.prog.funcs[f]? = some fn) :
    true = Tryz.pinned.checked.prog.looks [] ∧ ∀ (j : Nat) t, fn.params[j]? = some t → Tryz.pinned.checked.prog.wantsStandIn t = false := by
  obtain rfl : f = 6 := Option.some.inj ((show Tryz.prog.funcNamed "loop.example/mailhost/laws.FnExactKeyParse" = some 6 by kernel_rfl).symm.trans hf) |>.symm
  obtain rfl : fn = Tryz.f6 := (Option.some.inj (Tryz.func6.symm.trans hfn)).symm
  refine ⟨by kernel_rfl, fun j t ht => ?_⟩
  rw [Tryz.params6] at ht
  obtain rfl : t = 9 := by have := Array.mem_of_getElem? ht; simpa using this
  exact (show Tryz.prog.wantsStandIn 9 = false by kernel_rfl)
theorem card : Rows.FnExactKeyParseCardSaid :=
  Claim7.holds_tied_plain_at .later [] _ _ _ _ said (fun _ h => by cases h) (by kernel_rfl) (fun _ h => by cases h) fnExactKeyParse_row_tie rfl ⟨rfl, rfl⟩ (by kernel_rfl) rfl plain (by kernel_rfl)
end Go.Proofs.YtoleonldkifcbaaGreatDoor.fnExactKeyParse
#print axioms Go.Proofs.YtoleonldkifcbaaGreatDoor.fnExactKeyParse.card
