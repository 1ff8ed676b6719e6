/- The statement FnKeyFormat (P76: a written key can be parsed): for every code the law returns true and leaves the code as it was. No condition of ours; the listed tables (the flags' names, and tables of packages unicode, utf8, strconv, bits) read as the text lays them (the card ties that). -/
import Derived.Test.YtoleonldkifcbaaGreatDoorKN
import Derived.Test.YtoleonldkifcbaaGreatDoorKC
namespace Go.Proofs.YtoleonldkifcbaaGreatDoor
open Go.RowKit

set_option maxHeartbeats 4000000 in
set_option maxRecDepth 100000 in
theorem wFnKeyFormat (v : Value) (m : Int) (w : World) (h : CodeAt w v) (hm : w.cell? ⟨1, 0, none⟩ = some (.int .i64 m)) (hF : FlagsAt w) :
    Calls Tryz.prog 3 #[v] w fun e w' => e = .returned (.bool true) ∧ Kept [] w w' := by
  obtain ⟨a0, cap, b, off, xs, rfl, hc, ha, hx⟩ := id h
  have HC := hid h
  have HM := hid hm
  have HF := hid hF
  clear h hm ha hx hF
  by_cases hbig : (1048576 : Int) < xs.length
  · go_enter Tryz.func3, Tryz.ntmps3
    go_wp2
    go_ret
    exact ⟨rfl, Kept.refl _ _⟩
  go_enter Tryz.func3, Tryz.ntmps3
  have KK := hid (Kept.refl [] w)
  go_wp2_with fail
  refine (drawKeyFormat_any _ _ HC.out).mono ?_
  rintro e w1 ⟨k, sv, kv, rfl, hK, hI, hn⟩
  replace KK := hid (KK.out.trans hK)
  clear hK
  obtain ⟨hcl, hsp, q1, q3, b4, off4, hkv, -⟩ := hI.parts
  obtain ⟨s1, s3, hsv⟩ := hsp.form
  subst hkv hsv
  obtain ⟨s2, hs2⟩ : ∃ s2, k.set.length = s2 := ⟨_, rfl⟩
  obtain ⟨q2, hq2⟩ : ∃ q2, k.keys.length = q2 := ⟨_, rfl⟩
  rw [hs2, hq2] at hI ⊢
  have HI := hid (fun W (hW : Kept [] w1 W) => KeyIn.kept hW (by simp) k _ _ hI)
  have HN : Hid (nodesK k ≤ bigN) := by show _ ≤ _; unfold bigN; omega
  have HFL := hid (fun W (hW : Kept [] w1 W) => HF.out.kept0 (KK.out.trans hW))
  have HML := hid (fun W (hW : Kept [] w1 W) => (KK.out.trans hW).cell_some HM.out (by simp))
  have HW1 := hid KK.out
  have HIF := hid (fun W (hW : Kept [] w1 W) => iKeyFormat_any 0 (.agg #[.int .i64 k.kind, .int .i64 k.flag, .string (bs k.text), .slice s1 s2 s3, .slice q1 q2 q3]) k W ⟨_, _, rfl, HI.out W hW⟩ (HFL.out W hW))
  have HSF := hid (fun W (hW : Kept [] w1 W) => sKeyFormat_any 0 k (.slice s1 s2 s3) (.slice q1 q2 q3) W HN.out (HI.out W hW))
  have HLN : Hid ((fmtV k).length ≤ 450) := fmtV_len k
  have HPK := hid (fun (hne : fmtV k ≠ []) => keyI_fmtV k hne)
  have HPI := hid (fun W (hW : Kept [] w1 W) => iKeyParse_any (fmtV k) m W (by have := HLN.out; unfold bigN; omega) (HFL.out W hW) (HML.out W hW))
  obtain ⟨fv, hfv⟩ : ∃ fv, fmtV k = fv := ⟨_, rfl⟩
  rw [hfv] at HIF HSF HLN HPK HPI
  clear hI hsp hcl hfv hs2 hq2 hn
  replace KK := hid (Kept.refl [] w1)
  have HD := hid (new_block w1 (Obj.cells #[.int .i64 k.kind, .int .i64 k.flag, .string (bs k.text), .slice s1 s2 s3, .slice q1 q2 q3] 26))
  replace KK := hid (KK.out.alloc (Obj.cells #[.int .i64 k.kind, .int .i64 k.flag, .string (bs k.text), .slice s1 s2 s3, .slice q1 q2 q3] 26))
  go_wp2_with fail
  refine (HIF.out _ KK.out).mono ?_
  rintro e w2 ⟨rfl, hK⟩
  replace HD := hid (hK.same HD.out (by simp))
  replace KK := hid (KK.out.trans hK)
  clear hK
  have hb := HD.out
  have d0 := cell_of_block hb 0
  have d1 := cell_of_block hb 1
  have d2 := cell_of_block hb 2
  have d3 := cell_of_block hb 3
  have d4 := cell_of_block hb 4
  simp at d0 d1 d2 d3 d4
  have ld := lt_of_block hb
  clear hb
  go_wp2_with fail
  refine (HSF.out _ KK.out).mono ?_
  rintro e w3 ⟨rfl, hK⟩
  clear d0 d1 d2 d3 d4 ld
  replace HD := hid (hK.same HD.out (by simp))
  replace KK := hid (KK.out.trans hK)
  clear hK
  by_cases hfe : fv = []
  · have h1 : ((bs fv).toList == []) = true := str_yes hfe
    clear hfe
    go_wp2
    go_ret
    exact ⟨rfl, HW1.out.trans KK.out⟩
  · have h1 : ((bs fv).toList == []) = false := str_ne hfe
    have HKF := hid (HPK.out hfe)
    rw [HKF.out] at HPI
    clear hfe
    go_wp2_with fail
    refine (HPI.out _ KK.out).mono ?_
    rintro e w4 ⟨x1, x2, x3, y1, y2, y3, rfl, hK, hX⟩
    replace HD := hid (hK.same HD.out (by simp))
    replace KK := hid (KK.out.trans hK)
    clear hK
    dsimp only [Option.getD_some, Option.isSome_some] at hX ⊢
    have HX := hid (fun W (hW : Kept [] w4 W) => KeyIn.low (Nat.zero_le _) k _ _ (KeyX.in_ k _ _ (KeyX.kept hW (by simp) k _ _ hX)))
    have KX := hid (Kept.refl [] w4)
    clear hX
    replace HD := hid (alloc_block HD.out (Obj.cells #[.int .i64 k.kind, .int .i64 k.flag, .string (bs k.text), .slice x1 x2 x3, .slice y1 y2 y3] 26))
    have HE := hid (new_block w4 (Obj.cells #[.int .i64 k.kind, .int .i64 k.flag, .string (bs k.text), .slice x1 x2 x3, .slice y1 y2 y3] 26))
    replace KK := hid (KK.out.alloc (Obj.cells #[.int .i64 k.kind, .int .i64 k.flag, .string (bs k.text), .slice x1 x2 x3, .slice y1 y2 y3] 26))
    replace KX := hid (KX.out.alloc (Obj.cells #[.int .i64 k.kind, .int .i64 k.flag, .string (bs k.text), .slice x1 x2 x3, .slice y1 y2 y3] 26))
    have hb := HD.out
    have d0 := cell_of_block hb 0
    have d1 := cell_of_block hb 1
    have d2 := cell_of_block hb 2
    have d3 := cell_of_block hb 3
    have d4 := cell_of_block hb 4
    simp at d0 d1 d2 d3 d4
    have ld := lt_of_block hb
    clear hb
    have hb := HE.out
    have e0 := cell_of_block hb 0
    have e1 := cell_of_block hb 1
    have e2 := cell_of_block hb 2
    have e3 := cell_of_block hb 3
    have e4 := cell_of_block hb 4
    simp at e0 e1 e2 e3 e4
    have le := lt_of_block hb
    clear hb
    go_wp2_with fail
    refine (sameKey_self k _ _ _ _ _ (HX.out _ KX.out) (HI.out _ KK.out)).mono ?_
    rintro e w5 ⟨rfl, hK⟩
    clear d0 d1 d2 d3 d4 ld
    clear e0 e1 e2 e3 e4 le
    replace HD := hid (hK.same HD.out (by simp))
    replace HE := hid (hK.same HE.out (by simp))
    replace KK := hid (KK.out.trans hK)
    clear hK
    go_wp2
    go_ret
    exact ⟨rfl, HW1.out.trans KK.out⟩
end Go.Proofs.YtoleonldkifcbaaGreatDoor
namespace Go.Proofs.YtoleonldkifcbaaGreatDoor.fnKeyFormat
open Go.ChangeShapes Go.WideShapes Go.ChangeAt Go.RowKit
set_option maxRecDepth 100000

theorem contract (H : Type) (enc : TypeId × Value → H) (W : World) (base : Nat) (args : Array Value) (ds gs : List (DataW H)) (before : List MemPlace)
    (hval : ∀ (j : Nat) t v, Tryz.f3.params[j]? = some t → args[j]? = some v → Value.okWide Tryz.prog W .any base t v)
    (hW : DataW.Whole enc Tryz.prog Tryz.f3.params.toList Rows.fnKeyFormatSpec.vars false W args.toList ds gs before) (hsh : W.ShapedOpen Tryz.prog) (hF : FlagsAt W) :
    Calls Tryz.prog 3 args W fun e W' => ∃ v, e = .returned v ∧ Rows.fnKeyFormatSpec.post enc Tryz.prog Tryz.f3 false true false false W args v W' :=
  contractB 3 Tryz.f3 Rows.fnKeyFormatSpec Tryz.params3 rfl rfl (fun _ _ _ => rfl) wFnKeyFormat H enc W base args ds gs before hval hW hsh hF
theorem reads (os : Os) {H : Type} (enc : TypeId × Value → H) : (DataW.whole enc Tryz.prog ((laidWorld os).forCall (fun _ _ => 0) ⟨#[], #[.slice none 0 0], []⟩).memory Tryz.f3.params.toList Rows.fnKeyFormatSpec.vars false (#[.slice none 0 0] : Array Value).toList 8).map (fun x => (x.1, x.2.1)) = some ([.nil], [Rows.laid_loop_example_mailhost_impl_flagNames]) := by kernel_rfl
theorem lifted (os : Os) (started : os.Started) (H : Type) (enc : TypeId × Value → H) (F : Stop.Interp) :
    ReturnsInHanded {} Tryz.checked os 3 .any ((OpenSpec.ofChange Rows.fnKeyFormatSpec).preRow enc Tryz.prog Tryz.f3 Rows.fnKeyFormatRow.domain false Rows.fnKeyFormatRow.laid) (((OpenSpec.ofChange Rows.fnKeyFormatSpec).at F).post enc Tryz.prog Tryz.f3 false true false false) := by
  obtain ⟨⟨x1, x2, x3⟩, hx, hx1⟩ := Option.map_eq_some_iff.1 (reads os enc)
  simp only [Prod.mk.injEq] at hx1
  obtain ⟨rfl, rfl⟩ := hx1
  refine returnsInHanded_of_row (C := Tryz.checked) (s := OpenSpec.ofChange Rows.fnKeyFormatSpec) own started (by kernel_rfl) Tryz.func3
    (witness_row_atRef (enc := enc) (C := Tryz.checked) false (laidWorld os) #[.slice none 0 0] rfl (by kernel_rfl) (by kernel_rfl) (by kernel_rfl)
      (OpenSpec.preRow_of_cond 8 hx (by kernel_rfl) (fun k hk => by cases hk) (by kernel_rfl) (laid_met os _))) ?_
  intro W base args ds gs before hval hW _ _ _ hL hsh _
  exact contract H enc W base args ds gs before hval hW hsh (flags_of hL)
theorem said : Rows.FnKeyFormatSaid :=
  OpenClaim.holds_of_cond 3 Tryz.f3 rfl rfl rfl rfl rfl rfl rfl ⟨rfl, rfl, rfl, rfl, rfl⟩ rfl rfl rfl rfl rfl (by kernel_rfl) Tryz.func3 (by kernel_rfl)
    (of_decide_eq_true (by kernel_rfl)) (by unfold Func.isWrapper; first | (rw [if_pos (by decide +kernel)]; kernel_rfl) | (rw [if_neg (by decide +kernel)]; exact ⟨rfl, rfl⟩))
    (fun os started H enc _ F => by rw [OpenClaim.pre_eq_preRow]; exact lifted os started H enc F)
/-- No parameter wants a stand-in; the program's own looks are off. -/
theorem plain (f : FuncId) (fn : Func) (hf : Tryz.pinned.checked.prog.funcNamed "loop.example/mailhost/laws.FnKeyFormat" = some f) (hfn : Tryz.pinned.checked.prog.funcs[f]? = some fn) :
    true = Tryz.pinned.checked.prog.looks [] ∧ ∀ (j : Nat) t, fn.params[j]? = some t → Tryz.pinned.checked.prog.wantsStandIn t = false := by
  obtain rfl : f = 3 := Option.some.inj ((show Tryz.prog.funcNamed "loop.example/mailhost/laws.FnKeyFormat" = some 3 by kernel_rfl).symm.trans hf) |>.symm
  obtain rfl : fn = Tryz.f3 := (Option.some.inj (Tryz.func3.symm.trans hfn)).symm
  refine ⟨by kernel_rfl, fun j t ht => ?_⟩
  rw [Tryz.params3] at ht
  obtain rfl : t = 22 := by have := Array.mem_of_getElem? ht; simpa using this
  exact (show Tryz.prog.wantsStandIn 22 = false by kernel_rfl)
theorem card : Rows.FnKeyFormatCardSaid :=
  Claim7.holds_tied_plain_at .later [] _ _ _ _ said (fun _ h => by cases h) (by kernel_rfl) (fun _ h => by cases h) fnKeyFormat_row_tie rfl ⟨rfl, rfl⟩ (by kernel_rfl) rfl plain (by kernel_rfl)
end Go.Proofs.YtoleonldkifcbaaGreatDoor.fnKeyFormat
#print axioms Go.Proofs.YtoleonldkifcbaaGreatDoor.fnKeyFormat.card
