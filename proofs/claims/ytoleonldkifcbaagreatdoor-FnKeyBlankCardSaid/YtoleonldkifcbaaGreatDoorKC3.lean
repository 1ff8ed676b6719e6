/- The statement FnKeyBlank (P78: a text of a key has no further blanks): for every code the law returns true and leaves the code as it was. No condition of ours; the listed tables (the flags' names, and tables of packages unicode, utf8, strconv, bits) read as the text lays them (the card ties that). -/
import Derived.Test.YtoleonldkifcbaaGreatDoorKN
import Derived.Test.YtoleonldkifcbaaGreatDoorKC
namespace Go.Proofs.YtoleonldkifcbaaGreatDoor
open Go.RowKit

set_option maxHeartbeats 4000000 in
set_option maxRecDepth 100000 in
theorem wFnKeyBlank (v : Value) (m : Int) (w : World) (h : CodeAt w v) (hm : w.cell? ⟨1, 0, none⟩ = some (.int .i64 m)) (hF : FlagsAt w) :
    Calls Tryz.prog 4 #[v] w fun e w' => e = .returned (.bool true) ∧ Kept [] w w' := by
  obtain ⟨a0, cap, b, off, xs, rfl, hc, ha, hx⟩ := id h
  have HC := hid h
  have HM := hid hm
  have HF := hid hF
  clear h hm ha hx hF
  by_cases hbig : (1048576 : Int) < xs.length
  · go_enter Tryz.func4, Tryz.ntmps4
    go_wp2
    go_ret
    exact ⟨rfl, Kept.refl _ _⟩
  go_enter Tryz.func4, Tryz.ntmps4
  have KK := hid (Kept.refl [] w)
  go_wp2_with fail
  refine (drawKeyParse_any _ _ HC.out).mono ?_
  rintro e w1 ⟨t, rfl, ht, hK⟩
  replace KK := hid (KK.out.trans hK)
  clear hK
  have HFL := hid (fun W (hW : Kept [] w1 W) => HF.out.kept0 (KK.out.trans hW))
  have HML := hid (fun W (hW : Kept [] w1 W) => (KK.out.trans hW).cell_some HM.out (by simp))
  have HW1 := hid KK.out
  have htb : t.length + 8 ≤ bigN - 1 := by unfold bigN; omega
  obtain ⟨K, hKq⟩ : ∃ K, (keyI t).getD kyNone = K := ⟨_, rfl⟩
  obtain ⟨ob, hob⟩ : ∃ ob, (keyI t).isSome = ob := ⟨_, rfl⟩
  have HPI := hid (fun W (hW : Kept [] w1 W) => (iKeyParse_any t m W (by omega) (HFL.out W hW) (HML.out W hW)).mono (fun e w' h => parse_res h hKq hob))
  have HPS := hid (fun W (hW : Kept [] w1 W) => (sKeyParse_any t W (by omega)).mono (fun e w' h => parse_res (by rw [← key_same] at h; exact h) hKq hob))
  have HK0 := hid (fun (hb : ob = true) => show keyI (32 :: t) = none ∧ keyI (t ++ [32]) = none ∧ keyI (t ++ [32, 97, 108, 108]) = none from by
    cases hk : keyI t with
    | none => rw [hk] at hob; rw [← hob] at hb; cases hb
    | some k => exact ⟨key_blank hk, key_end hk, key_all hk⟩)
  have HB1 := hid (fun (hb : ob = true) W (hW : Kept [] w1 W) => (iKeyParse_any (32 :: t) m W (by simp; omega) (HFL.out W hW) (HML.out W hW)).mono (fun e w' h => parse_none h (HK0.out hb).1))
  have HB2 := hid (fun (hb : ob = true) W (hW : Kept [] w1 W) => (iKeyParse_any (t ++ [32]) m W (by simp; omega) (HFL.out W hW) (HML.out W hW)).mono (fun e w' h => parse_none h (HK0.out hb).2.1))
  have HB3 := hid (fun (hb : ob = true) W (hW : Kept [] w1 W) => (iKeyParse_any (t ++ [32, 97, 108, 108]) m W (by simp; omega) (HFL.out W hW) (HML.out W hW)).mono (fun e w' h => parse_none h (HK0.out hb).2.2))
  have a1 : (t.length : Int) + 4 ≤ 9223372036854775807 := by omega
  have a2 : (1 : Int) + t.length ≤ 9223372036854775807 := by omega
  have a3 : (t.length : Int) + 1 ≤ 9223372036854775807 := by omega
  have c1 : (⟨#[32]⟩ : ByteArray) ++ bs t = bs (32 :: t) := by rw [← toList_inj]; simp
  have c2 : bs t ++ (⟨#[32]⟩ : ByteArray) = bs (t ++ [32]) := by rw [← toList_inj]; simp
  have c3 : bs t ++ (⟨#[32, 97, 108, 108]⟩ : ByteArray) = bs (t ++ [32, 97, 108, 108]) := by rw [← toList_inj]; simp
  clear hKq hob
  replace KK := hid (Kept.refl [] w1)
  go_wp2_with fail
  refine (HPI.out _ KK.out).mono ?_
  rintro e w2 ⟨x1, x2, x3, y1, y2, y3, rfl, hK, hX⟩
  replace KK := hid (KK.out.trans hK)
  clear hK
  have HX := hid (fun W (hW : Kept [] w2 W) => KeyIn.low (Nat.zero_le _) K _ _ (KeyX.in_ K _ _ (KeyX.kept hW (by simp) K _ _ hX)))
  clear hX
  have K2 := hid (Kept.refl [] w2)
  have HD := hid (new_block w2 (Obj.cells #[.int .i64 K.kind, .int .i64 K.flag, .string (bs K.text), .slice x1 x2 x3, .slice y1 y2 y3] 26))
  replace KK := hid (KK.out.alloc (Obj.cells #[.int .i64 K.kind, .int .i64 K.flag, .string (bs K.text), .slice x1 x2 x3, .slice y1 y2 y3] 26))
  replace K2 := hid (K2.out.alloc (Obj.cells #[.int .i64 K.kind, .int .i64 K.flag, .string (bs K.text), .slice x1 x2 x3, .slice y1 y2 y3] 26))
  go_wp2_with fail
  refine (HPS.out _ KK.out).mono ?_
  rintro e w3 ⟨p1, p2, p3, q1, q2, q3, rfl, hK, hX⟩
  have HY := hid (fun W (hW : Kept [] w3 W) => KeyIn.low (Nat.zero_le _) K _ _ (KeyX.in_ K _ _ (KeyX.kept hW (by simp) K _ _ hX)))
  clear hX
  have K3 := hid (Kept.refl [] w3)
  replace HD := hid (hK.same HD.out (by simp))
  replace KK := hid (KK.out.trans hK)
  replace K2 := hid (K2.out.trans hK)
  clear hK
  replace HD := hid (alloc_block HD.out (Obj.cells #[.int .i64 K.kind, .int .i64 K.flag, .string (bs K.text), .slice p1 p2 p3, .slice q1 q2 q3] 26))
  have HE := hid (new_block w3 (Obj.cells #[.int .i64 K.kind, .int .i64 K.flag, .string (bs K.text), .slice p1 p2 p3, .slice q1 q2 q3] 26))
  replace KK := hid (KK.out.alloc (Obj.cells #[.int .i64 K.kind, .int .i64 K.flag, .string (bs K.text), .slice p1 p2 p3, .slice q1 q2 q3] 26))
  replace K2 := hid (K2.out.alloc (Obj.cells #[.int .i64 K.kind, .int .i64 K.flag, .string (bs K.text), .slice p1 p2 p3, .slice q1 q2 q3] 26))
  replace K3 := hid (K3.out.alloc (Obj.cells #[.int .i64 K.kind, .int .i64 K.flag, .string (bs K.text), .slice p1 p2 p3, .slice q1 q2 q3] 26))
  cases ob with
  | false =>
    have HSM := hid (sameKey_self K _ _ _ _ _ (HX.out _ K2.out) (HY.out _ K3.out))
    have hb := HD.out
    have d0 := cell_of_block hb 0
    have d1 := cell_of_block hb 1
    have d2 := cell_of_block hb 2
    have d3 := cell_of_block hb 3
    have d4 := cell_of_block hb 4
    simp at d0 d1 d2 d3 d4
    have ld := lt_of_block hb
    clear hb
    have hb := HE.out
    have e0 := cell_of_block hb 0
    have e1 := cell_of_block hb 1
    have e2 := cell_of_block hb 2
    have e3 := cell_of_block hb 3
    have e4 := cell_of_block hb 4
    simp at e0 e1 e2 e3 e4
    have le := lt_of_block hb
    clear hb
    go_wp2_with fail
    refine HSM.out.mono ?_
    rintro e w4 ⟨rfl, hK⟩
    clear d0 d1 d2 d3 d4 ld
    clear e0 e1 e2 e3 e4 le
    replace HD := hid (hK.same HD.out (by simp))
    replace HE := hid (hK.same HE.out (by simp))
    replace KK := hid (KK.out.trans hK)
    replace K2 := hid (K2.out.trans hK)
    replace K3 := hid (K3.out.trans hK)
    clear hK HSM
    have HSM := hid (sameKey_self K _ _ _ _ _ (HX.out _ K2.out) (HY.out _ K3.out))
    have hb := HD.out
    have d0 := cell_of_block hb 0
    have d1 := cell_of_block hb 1
    have d2 := cell_of_block hb 2
    have d3 := cell_of_block hb 3
    have d4 := cell_of_block hb 4
    simp at d0 d1 d2 d3 d4
    have ld := lt_of_block hb
    clear hb
    have hb := HE.out
    have e0 := cell_of_block hb 0
    have e1 := cell_of_block hb 1
    have e2 := cell_of_block hb 2
    have e3 := cell_of_block hb 3
    have e4 := cell_of_block hb 4
    simp at e0 e1 e2 e3 e4
    have le := lt_of_block hb
    clear hb
    go_wp2_with fail
    refine HSM.out.mono ?_
    rintro e w5 ⟨rfl, hK⟩
    clear d0 d1 d2 d3 d4 ld
    clear e0 e1 e2 e3 e4 le
    replace HD := hid (hK.same HD.out (by simp))
    replace HE := hid (hK.same HE.out (by simp))
    replace KK := hid (KK.out.trans hK)
    replace K2 := hid (K2.out.trans hK)
    replace K3 := hid (K3.out.trans hK)
    clear hK HSM
    go_wp2
    go_ret
    exact ⟨rfl, HW1.out.trans KK.out⟩
  | true =>
    have HSM := hid (sameKey_self K _ _ _ _ _ (HX.out _ K2.out) (HY.out _ K3.out))
    have hb := HD.out
    have d0 := cell_of_block hb 0
    have d1 := cell_of_block hb 1
    have d2 := cell_of_block hb 2
    have d3 := cell_of_block hb 3
    have d4 := cell_of_block hb 4
    simp at d0 d1 d2 d3 d4
    have ld := lt_of_block hb
    clear hb
    have hb := HE.out
    have e0 := cell_of_block hb 0
    have e1 := cell_of_block hb 1
    have e2 := cell_of_block hb 2
    have e3 := cell_of_block hb 3
    have e4 := cell_of_block hb 4
    simp at e0 e1 e2 e3 e4
    have le := lt_of_block hb
    clear hb
    go_wp2_with fail
    refine HSM.out.mono ?_
    rintro e w4 ⟨rfl, hK⟩
    clear d0 d1 d2 d3 d4 ld
    clear e0 e1 e2 e3 e4 le
    replace HD := hid (hK.same HD.out (by simp))
    replace HE := hid (hK.same HE.out (by simp))
    replace KK := hid (KK.out.trans hK)
    replace K2 := hid (K2.out.trans hK)
    replace K3 := hid (K3.out.trans hK)
    clear hK HSM
    go_wp2_with fail
    refine (HB1.out (by trivial) _ KK.out).mono ?_
    rintro e w6 ⟨u1, u2, u3, z1, z2, z3, rfl, hK, -⟩
    replace KK := hid ((KK.out.trans hK).alloc (Obj.cells #[.int .i64 kyNone.kind, .int .i64 kyNone.flag, .string (bs kyNone.text), .slice u1 u2 u3, .slice z1 z2 z3] 26))
    clear hK
    go_wp2_with fail
    refine (HB2.out (by trivial) _ KK.out).mono ?_
    rintro e w7 ⟨u1, u2, u3, z1, z2, z3, rfl, hK, -⟩
    replace KK := hid ((KK.out.trans hK).alloc (Obj.cells #[.int .i64 kyNone.kind, .int .i64 kyNone.flag, .string (bs kyNone.text), .slice u1 u2 u3, .slice z1 z2 z3] 26))
    clear hK
    go_wp2_with fail
    refine (HB3.out (by trivial) _ KK.out).mono ?_
    rintro e w8 ⟨u1, u2, u3, z1, z2, z3, rfl, hK, -⟩
    replace KK := hid ((KK.out.trans hK).alloc (Obj.cells #[.int .i64 kyNone.kind, .int .i64 kyNone.flag, .string (bs kyNone.text), .slice u1 u2 u3, .slice z1 z2 z3] 26))
    clear hK
    go_wp2
    go_ret
    exact ⟨rfl, HW1.out.trans KK.out⟩
end Go.Proofs.YtoleonldkifcbaaGreatDoor
namespace Go.Proofs.YtoleonldkifcbaaGreatDoor.fnKeyBlank
open Go.ChangeShapes Go.WideShapes Go.ChangeAt Go.RowKit
set_option maxRecDepth 100000

theorem contract (H : Type) (enc : TypeId × Value → H) (W : World) (base : Nat) (args : Array Value) (ds gs : List (DataW H)) (before : List MemPlace)
    (hval : ∀ (j : Nat) t v, Tryz.f4.params[j]? = some t → args[j]? = some v → Value.okWide Tryz.prog W .any base t v)
    (hW : DataW.Whole enc Tryz.prog Tryz.f4.params.toList Rows.fnKeyBlankSpec.vars false W args.toList ds gs before) (hsh : W.ShapedOpen Tryz.prog) (hF : FlagsAt W) :
    Calls Tryz.prog 4 args W fun e W' => ∃ v, e = .returned v ∧ Rows.fnKeyBlankSpec.post enc Tryz.prog Tryz.f4 false true false false W args v W' :=
  contractB 4 Tryz.f4 Rows.fnKeyBlankSpec Tryz.params4 rfl rfl (fun _ _ _ => rfl) wFnKeyBlank H enc W base args ds gs before hval hW hsh hF
theorem reads (os : Os) {H : Type} (enc : TypeId × Value → H) : (DataW.whole enc Tryz.prog ((laidWorld os).forCall (fun _ _ => 0) ⟨#[], #[.slice none 0 0], []⟩).memory Tryz.f4.params.toList Rows.fnKeyBlankSpec.vars false (#[.slice none 0 0] : Array Value).toList 8).map (fun x => (x.1, x.2.1)) = some ([.nil], [Rows.laid_loop_example_mailhost_impl_flagNames]) := by kernel_rfl
theorem lifted (os : Os) (started : os.Started) (H : Type) (enc : TypeId × Value → H) (F : Stop.Interp) :
    ReturnsInHanded {} Tryz.checked os 4 .any ((OpenSpec.ofChange Rows.fnKeyBlankSpec).preRow enc Tryz.prog Tryz.f4 Rows.fnKeyBlankRow.domain false Rows.fnKeyBlankRow.laid) (((OpenSpec.ofChange Rows.fnKeyBlankSpec).at F).post enc Tryz.prog Tryz.f4 false true false false) := by
  obtain ⟨⟨x1, x2, x3⟩, hx, hx1⟩ := Option.map_eq_some_iff.1 (reads os enc)
  simp only [Prod.mk.injEq] at hx1
  obtain ⟨rfl, rfl⟩ := hx1
  refine returnsInHanded_of_row (C := Tryz.checked) (s := OpenSpec.ofChange Rows.fnKeyBlankSpec) own started (by kernel_rfl) Tryz.func4
    (witness_row_atRef (enc := enc) (C := Tryz.checked) false (laidWorld os) #[.slice none 0 0] rfl (by kernel_rfl) (by kernel_rfl) (by kernel_rfl)
      (OpenSpec.preRow_of_cond 8 hx (by kernel_rfl) (fun k hk => by cases hk) (by kernel_rfl) (laid_met os _))) ?_
  intro W base args ds gs before hval hW _ _ _ hL hsh _
  exact contract H enc W base args ds gs before hval hW hsh (flags_of hL)
theorem said : Rows.FnKeyBlankSaid :=
  OpenClaim.holds_of_cond 4 Tryz.f4 rfl rfl rfl rfl rfl rfl rfl ⟨rfl, rfl, rfl, rfl, rfl⟩ rfl rfl rfl rfl rfl (by kernel_rfl) Tryz.func4 (by kernel_rfl)
    (of_decide_eq_true (by kernel_rfl)) (by unfold Func.isWrapper; first | (rw [if_pos (by decide +kernel)]; kernel_rfl) | (rw [if_neg (by decide +kernel)]; exact ⟨rfl, rfl⟩))
    (fun os started H enc _ F => by rw [OpenClaim.pre_eq_preRow]; exact lifted os started H enc F)
/-- No parameter wants a stand-in; the program's own looks are off. -/
theorem plain (f : FuncId) (fn : Func) (hf : Tryz.pinned.checked.prog.funcNamed "loop.example/mailhost/laws.FnKeyBlank" = some f) (hfn : Tryz.pinned.checked.prog.funcs[f]? = some fn) :
    true = Tryz.pinned.checked.prog.looks [] ∧ ∀ (j : Nat) t, fn.params[j]? = some t → Tryz.pinned.checked.prog.wantsStandIn t = false := by
  obtain rfl : f = 4 := Option.some.inj ((show Tryz.prog.funcNamed "loop.example/mailhost/laws.FnKeyBlank" = some 4 by kernel_rfl).symm.trans hf) |>.symm
  obtain rfl : fn = Tryz.f4 := (Option.some.inj (Tryz.func4.symm.trans hfn)).symm
  refine ⟨by kernel_rfl, fun j t ht => ?_⟩
  rw [Tryz.params4] at ht
  obtain rfl : t = 22 := by have := Array.mem_of_getElem? ht; simpa using this
  exact (show Tryz.prog.wantsStandIn 22 = false by kernel_rfl)
theorem card : Rows.FnKeyBlankCardSaid :=
  Claim7.holds_tied_plain_at .later [] _ _ _ _ said (fun _ h => by cases h) (by kernel_rfl) (fun _ h => by cases h) fnKeyBlank_row_tie rfl ⟨rfl, rfl⟩ (by kernel_rfl) rfl plain (by kernel_rfl)
end Go.Proofs.YtoleonldkifcbaaGreatDoor.fnKeyBlank
#print axioms Go.Proofs.YtoleonldkifcbaaGreatDoor.fnKeyBlank.card
