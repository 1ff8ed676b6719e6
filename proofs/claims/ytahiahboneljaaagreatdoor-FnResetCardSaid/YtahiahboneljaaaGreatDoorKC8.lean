/- The statement FnReset (P115: a reset forgets the letter): for every code the law returns true and leaves the code as it was. No condition of ours; the two tables of package utf8 read as the text lays them (the card ties that). -/
import Derived.Test.YtahiahboneljaaaGreatDoorKLa
import Derived.Test.YtahiahboneljaaaGreatDoorKC
namespace Go.Proofs.YtahiahboneljaaaGreatDoor
open Go.RowKit

set_option maxHeartbeats 4000000 in
set_option maxRecDepth 100000 in
theorem wFnReset (v : Value) (m : Int) (w : World) (h : CodeAt w v) (hm : w.cell? ⟨0, 0, none⟩ = some (.int .i64 m)) :
    Calls Tryz.prog 9 #[v] w fun e w' => e = .returned (.bool true) ∧ Kept [] w w' := by
  obtain ⟨a0, cap, b, off, xs, rfl, hc, ha, hx⟩ := id h
  have HC := hid h
  have HM := hid hm
  clear h hm ha hx
  by_cases hbig : (1048576 : Int) < xs.length
  · go_enter Tryz.func9, Tryz.ntmps9
    go_wp2
    go_ret
    exact ⟨rfl, Kept.refl _ _⟩
  go_enter Tryz.func9, Tryz.ntmps9
  go_wp2_with fail
  refine (drawSubLine_any _ _ HC.out).mono ?_
  rintro e w1 ⟨sv, uv, s, us, d, l, rfl, hs, hu, hd, hl, hK⟩
  obtain ⟨tv, rfl, hst, hul, htl⟩ := id hs
  obtain ⟨ta, tcap, rfl⟩ := hst.form
  obtain ⟨ua, ucap, rfl⟩ := users_form hu
  have HS1 := hid hs
  have HUU := hid hu
  have HK := hid hK
  have hm1 := hK.cell_some HM.out (by simp)
  have HM1 := hid hm1
  have hdd : d.length ≤ bigN := by unfold bigN; omega
  have hll : l.length + 1 ≤ bigN := by unfold bigN; omega
  have HDL := hid (And.intro hdd (And.intro hll (And.intro hul htl)))
  have HI := hid (fun W l (hl : l.length + 1 ≤ bigN) (k : Kept [] w1 W) => iSubLine_any (.agg #[.int .i64 s.stage, .string (bs s.user), .slice ta s.to.length tcap, .string (bs s.text)]) (.slice ua us.length ucap) s us d l m W (HS1.out.kept0 k) (HUU.out.kept0 k) HDL.out.1 hl (k.cell_some HM1.out (by simp)))
  have HSP := hid (fun W (k : Kept [] w1 W) => sSubLine_any (.agg #[.int .i64 s.stage, .string (bs s.user), .slice ta s.to.length tcap, .string (bs s.text)]) (.slice ua us.length ucap) s us d l W (HS1.out.kept0 k) (HUU.out.kept0 k) HDL.out.1 HDL.out.2.1)
  have HX : Hid (subLineP s us d l = subLineP s us d l) := rfl
  have HI1 := hid (fun W (k : Kept [] w1 W) => HI.out W l HDL.out.2.1 k)
  generalize hxx : subLineP s us d l = x at HX HI1 HSP
  have HXX := hid hxx
  clear hxx HX hst hu hd hl hK hul htl hm1 hdd hll hs
  have SA := hid HS1.out
  have KK := hid (Kept.refl [] w1)
  go_wp2_with fail
  refine calls_world (fun W => W.heap[w1.heap.size]? = some (.cells #[.int .i64 s.stage, .string (bs s.user), .slice ta s.to.length tcap, .string (bs s.text)] 25 (0, 0)) ∧ Kept [] w1 W) ⟨new_block w1 _, (Kept.refl _ _).alloc _⟩ ?_
  rintro W1 ⟨hbn, hK⟩
  have HA := hid hbn
  clear hbn
  replace SA := hid (SA.out.kept0 hK)
  replace KK := hid (KK.out.trans hK)
  clear hK
  refine (HI1.out _ KK.out).mono ?_
  rintro e w102 he
  obtain ⟨ta2, tc2, rfl, hs, hK⟩ := he.is
  clear he
  have SB := hid hs
  clear hs
  try clear A0 A1 A2 A3 lA
  replace HA := hid (hK.same HA.out (by simp))
  replace SA := hid (SA.out.kept0 hK)
  replace KK := hid (KK.out.trans hK)
  clear hK
  have hbA := HA.out
  have A0 := cell_of_block hbA 0
  have A1 := cell_of_block hbA 1
  have A2 := cell_of_block hbA 2
  have A3 := cell_of_block hbA 3
  simp at A0 A1 A2 A3
  have lA := lt_of_block hbA
  clear hbA
  go_wp2_with fail
  refine calls_world (fun W => W.heap[w102.heap.size]? = some (.cells #[.int .i64 x.1.stage, .string (bs x.1.user), .slice ta2 x.1.to.length tc2, .string (bs x.1.text)] 25 (0, 0)) ∧ Kept [] w102 W) ⟨new_block w102 _, (Kept.refl _ _).alloc _⟩ ?_
  rintro W3 ⟨hbn, hK⟩
  have HB := hid hbn
  clear hbn
  replace SB := hid (SB.out.kept0 hK)
  try clear A0 A1 A2 A3 lA
  replace HA := hid (hK.same HA.out (by simp))
  replace SA := hid (SA.out.kept0 hK)
  replace KK := hid (KK.out.trans hK)
  clear hK
  refine (HSP.out _ KK.out).mono ?_
  rintro e w104 he
  obtain ⟨ta4, tc4, rfl, hs, hK⟩ := he.is
  clear he
  have SC := hid hs
  clear hs
  try clear A0 A1 A2 A3 lA
  try clear B0 B1 B2 B3 lB
  replace HA := hid (hK.same HA.out (by simp))
  replace SA := hid (SA.out.kept0 hK)
  replace HB := hid (hK.same HB.out (by simp))
  replace SB := hid (SB.out.kept0 hK)
  replace KK := hid (KK.out.trans hK)
  clear hK
  have hbA := HA.out
  have A0 := cell_of_block hbA 0
  have A1 := cell_of_block hbA 1
  have A2 := cell_of_block hbA 2
  have A3 := cell_of_block hbA 3
  simp at A0 A1 A2 A3
  have lA := lt_of_block hbA
  clear hbA
  have hbB := HB.out
  have B0 := cell_of_block hbB 0
  have B1 := cell_of_block hbB 1
  have B2 := cell_of_block hbB 2
  have B3 := cell_of_block hbB 3
  simp at B0 B1 B2 B3
  have lB := lt_of_block hbB
  clear hbB
  by_cases hneg : x.2 < 0
  · go_wp2_with fail
    refine calls_world (fun W => W.heap[w104.heap.size]? = some (.cells #[.int .i64 x.1.stage, .string (bs x.1.user), .slice ta4 x.1.to.length tc4, .string (bs x.1.text)] 25 (0, 0)) ∧ Kept [] w104 W) ⟨new_block w104 _, (Kept.refl _ _).alloc _⟩ ?_
    rintro W5 ⟨hbn, hK⟩
    have HC := hid hbn
    clear hbn
    replace SC := hid (SC.out.kept0 hK)
    try clear A0 A1 A2 A3 lA
    try clear B0 B1 B2 B3 lB
    replace HA := hid (hK.same HA.out (by simp))
    replace SA := hid (SA.out.kept0 hK)
    replace HB := hid (hK.same HB.out (by simp))
    replace SB := hid (SB.out.kept0 hK)
    replace KK := hid (KK.out.trans hK)
    clear hK
    refine (sameSub_self 0 0 _ _ _ _ SB.out SC.out).mono ?_
    rintro e w106 ⟨rfl, hK⟩
    try clear A0 A1 A2 A3 lA
    try clear B0 B1 B2 B3 lB
    try clear C0 C1 C2 C3 lC
    replace HA := hid (hK.same HA.out (by simp))
    replace SA := hid (SA.out.kept0 hK)
    replace HB := hid (hK.same HB.out (by simp))
    replace SB := hid (SB.out.kept0 hK)
    replace HC := hid (hK.same HC.out (by simp))
    replace SC := hid (SC.out.kept0 hK)
    replace KK := hid (KK.out.trans hK)
    clear hK
    have hbA := HA.out
    have A0 := cell_of_block hbA 0
    have A1 := cell_of_block hbA 1
    have A2 := cell_of_block hbA 2
    have A3 := cell_of_block hbA 3
    simp at A0 A1 A2 A3
    have lA := lt_of_block hbA
    clear hbA
    have hbB := HB.out
    have B0 := cell_of_block hbB 0
    have B1 := cell_of_block hbB 1
    have B2 := cell_of_block hbB 2
    have B3 := cell_of_block hbB 3
    simp at B0 B1 B2 B3
    have lB := lt_of_block hbB
    clear hbB
    have hbC := HC.out
    have C0 := cell_of_block hbC 0
    have C1 := cell_of_block hbC 1
    have C2 := cell_of_block hbC 2
    have C3 := cell_of_block hbC 3
    simp at C0 C1 C2 C3
    have lC := lt_of_block hbC
    clear hbC
    go_wp2_with fail
    refine (sameSub_self 0 0 _ _ _ _ SB.out SC.out).mono ?_
    rintro e w107 ⟨rfl, hK⟩
    try clear A0 A1 A2 A3 lA
    try clear B0 B1 B2 B3 lB
    try clear C0 C1 C2 C3 lC
    replace HA := hid (hK.same HA.out (by simp))
    replace SA := hid (SA.out.kept0 hK)
    replace HB := hid (hK.same HB.out (by simp))
    replace SB := hid (SB.out.kept0 hK)
    replace HC := hid (hK.same HC.out (by simp))
    replace SC := hid (SC.out.kept0 hK)
    replace KK := hid (KK.out.trans hK)
    clear hK
    have hbA := HA.out
    have A0 := cell_of_block hbA 0
    have A1 := cell_of_block hbA 1
    have A2 := cell_of_block hbA 2
    have A3 := cell_of_block hbA 3
    simp at A0 A1 A2 A3
    have lA := lt_of_block hbA
    clear hbA
    have hbB := HB.out
    have B0 := cell_of_block hbB 0
    have B1 := cell_of_block hbB 1
    have B2 := cell_of_block hbB 2
    have B3 := cell_of_block hbB 3
    simp at B0 B1 B2 B3
    have lB := lt_of_block hbB
    clear hbB
    have hbC := HC.out
    have C0 := cell_of_block hbC 0
    have C1 := cell_of_block hbC 1
    have C2 := cell_of_block hbC 2
    have C3 := cell_of_block hbC 3
    simp at C0 C1 C2 C3
    have lC := lt_of_block hbC
    clear hbC
    go_wp2
    go_ret
    exact ⟨rfl, HK.out.trans KK.out⟩
  go_wp2_with fail
  refine calls_world (fun W => W.heap[w104.heap.size]? = some (.cells #[.int .i64 x.1.stage, .string (bs x.1.user), .slice ta4 x.1.to.length tc4, .string (bs x.1.text)] 25 (0, 0)) ∧ Kept [] w104 W) ⟨new_block w104 _, (Kept.refl _ _).alloc _⟩ ?_
  rintro W5 ⟨hbn, hK⟩
  have HC := hid hbn
  clear hbn
  replace SC := hid (SC.out.kept0 hK)
  try clear A0 A1 A2 A3 lA
  try clear B0 B1 B2 B3 lB
  replace HA := hid (hK.same HA.out (by simp))
  replace SA := hid (SA.out.kept0 hK)
  replace HB := hid (hK.same HB.out (by simp))
  replace SB := hid (SB.out.kept0 hK)
  replace KK := hid (KK.out.trans hK)
  clear hK
  refine (sameSub_self 0 0 _ _ _ _ SB.out SC.out).mono ?_
  rintro e w106 ⟨rfl, hK⟩
  try clear A0 A1 A2 A3 lA
  try clear B0 B1 B2 B3 lB
  try clear C0 C1 C2 C3 lC
  replace HA := hid (hK.same HA.out (by simp))
  replace SA := hid (SA.out.kept0 hK)
  replace HB := hid (hK.same HB.out (by simp))
  replace SB := hid (SB.out.kept0 hK)
  replace HC := hid (hK.same HC.out (by simp))
  replace SC := hid (SC.out.kept0 hK)
  replace KK := hid (KK.out.trans hK)
  clear hK
  have hbA := HA.out
  have A0 := cell_of_block hbA 0
  have A1 := cell_of_block hbA 1
  have A2 := cell_of_block hbA 2
  have A3 := cell_of_block hbA 3
  simp at A0 A1 A2 A3
  have lA := lt_of_block hbA
  clear hbA
  have hbB := HB.out
  have B0 := cell_of_block hbB 0
  have B1 := cell_of_block hbB 1
  have B2 := cell_of_block hbB 2
  have B3 := cell_of_block hbB 3
  simp at B0 B1 B2 B3
  have lB := lt_of_block hbB
  clear hbB
  have hbC := HC.out
  have C0 := cell_of_block hbC 0
  have C1 := cell_of_block hbC 1
  have C2 := cell_of_block hbC 2
  have C3 := cell_of_block hbC 3
  simp at C0 C1 C2 C3
  have lC := lt_of_block hbC
  clear hbC
  go_wp2_with fail
  refine (open_any 0 _ s _ SA.out).mono ?_
  rintro e w107 ⟨rfl, hK⟩
  try clear A0 A1 A2 A3 lA
  try clear B0 B1 B2 B3 lB
  try clear C0 C1 C2 C3 lC
  replace HA := hid (hK.same HA.out (by simp))
  replace SA := hid (SA.out.kept0 hK)
  replace HB := hid (hK.same HB.out (by simp))
  replace SB := hid (SB.out.kept0 hK)
  replace HC := hid (hK.same HC.out (by simp))
  replace SC := hid (SC.out.kept0 hK)
  replace KK := hid (KK.out.trans hK)
  clear hK
  have hbA := HA.out
  have A0 := cell_of_block hbA 0
  have A1 := cell_of_block hbA 1
  have A2 := cell_of_block hbA 2
  have A3 := cell_of_block hbA 3
  simp at A0 A1 A2 A3
  have lA := lt_of_block hbA
  clear hbA
  have hbB := HB.out
  have B0 := cell_of_block hbB 0
  have B1 := cell_of_block hbB 1
  have B2 := cell_of_block hbB 2
  have B3 := cell_of_block hbB 3
  simp at B0 B1 B2 B3
  have lB := lt_of_block hbB
  clear hbB
  have hbC := HC.out
  have C0 := cell_of_block hbC 0
  have C1 := cell_of_block hbC 1
  have C2 := cell_of_block hbC 2
  have C3 := cell_of_block hbC 3
  simp at C0 C1 C2 C3
  have lC := lt_of_block hbC
  clear hbC
  cases ho : opn s with
  | false =>
    have HO := hid ho
    clear ho
    go_wp2_with fail
    refine (sameSub_self 0 0 _ _ _ _ SB.out SC.out).mono ?_
    rintro e w108 ⟨rfl, hK⟩
    try clear A0 A1 A2 A3 lA
    try clear B0 B1 B2 B3 lB
    try clear C0 C1 C2 C3 lC
    replace HA := hid (hK.same HA.out (by simp))
    replace SA := hid (SA.out.kept0 hK)
    replace HB := hid (hK.same HB.out (by simp))
    replace SB := hid (SB.out.kept0 hK)
    replace HC := hid (hK.same HC.out (by simp))
    replace SC := hid (SC.out.kept0 hK)
    replace KK := hid (KK.out.trans hK)
    clear hK
    have hbA := HA.out
    have A0 := cell_of_block hbA 0
    have A1 := cell_of_block hbA 1
    have A2 := cell_of_block hbA 2
    have A3 := cell_of_block hbA 3
    simp at A0 A1 A2 A3
    have lA := lt_of_block hbA
    clear hbA
    have hbB := HB.out
    have B0 := cell_of_block hbB 0
    have B1 := cell_of_block hbB 1
    have B2 := cell_of_block hbB 2
    have B3 := cell_of_block hbB 3
    simp at B0 B1 B2 B3
    have lB := lt_of_block hbB
    clear hbB
    have hbC := HC.out
    have C0 := cell_of_block hbC 0
    have C1 := cell_of_block hbC 1
    have C2 := cell_of_block hbC 2
    have C3 := cell_of_block hbC 3
    simp at C0 C1 C2 C3
    have lC := lt_of_block hbC
    clear hbC
    go_wp2
    go_ret
    exact ⟨rfl, HK.out.trans KK.out⟩
  | true =>
    have HO := hid ho
    have HV := hid (line_valid (s := s) (us := us) (d := d) (l := l) (by rw [HXX.out]; omega))
    clear ho HXX HI1 HSP
    go_wp2_with fail
    have hc := HI.out _ [82, 83, 69, 84] (by unfold bigN; decide) KK.out
    rw [line_of HV.out, ln_rset HO.out, ln_back HV.out.1] at hc
    refine (hc).mono ?_
    rintro e w108 he
    obtain ⟨ta8, tc8, rfl, hs, hK⟩ := he.is
    clear he
    have SD := hid hs
    clear hs
    try clear A0 A1 A2 A3 lA
    try clear B0 B1 B2 B3 lB
    try clear C0 C1 C2 C3 lC
    replace HA := hid (hK.same HA.out (by simp))
    replace SA := hid (SA.out.kept0 hK)
    replace HB := hid (hK.same HB.out (by simp))
    replace SB := hid (SB.out.kept0 hK)
    replace HC := hid (hK.same HC.out (by simp))
    replace SC := hid (SC.out.kept0 hK)
    replace KK := hid (KK.out.trans hK)
    clear hK
    have hbA := HA.out
    have A0 := cell_of_block hbA 0
    have A1 := cell_of_block hbA 1
    have A2 := cell_of_block hbA 2
    have A3 := cell_of_block hbA 3
    simp at A0 A1 A2 A3
    have lA := lt_of_block hbA
    clear hbA
    have hbB := HB.out
    have B0 := cell_of_block hbB 0
    have B1 := cell_of_block hbB 1
    have B2 := cell_of_block hbB 2
    have B3 := cell_of_block hbB 3
    simp at B0 B1 B2 B3
    have lB := lt_of_block hbB
    clear hbB
    have hbC := HC.out
    have C0 := cell_of_block hbC 0
    have C1 := cell_of_block hbC 1
    have C2 := cell_of_block hbC 2
    have C3 := cell_of_block hbC 3
    simp at C0 C1 C2 C3
    have lC := lt_of_block hbC
    clear hbC
    clear hc
    go_wp2_with fail
    refine (sameSub_self 0 0 _ _ ⟨min s.stage 2, s.user, [], []⟩ _ (SD.out.kept0 ((Kept.refl _ _).alloc _)) (sub_lit _ _ _ (HDL.out.2.2.1))).mono ?_
    rintro e w200 ⟨rfl, hK⟩
    go_wp2
    go_ret
    exact ⟨rfl, HK.out.trans (KK.out.trans (((Kept.refl _ _).alloc _).trans hK))⟩
end Go.Proofs.YtahiahboneljaaaGreatDoor
namespace Go.Proofs.YtahiahboneljaaaGreatDoor.fnReset
open Go.ChangeShapes Go.WideShapes Go.ChangeAt Go.RowKit
set_option maxRecDepth 100000

theorem contract (H : Type) (enc : TypeId × Value → H) (W : World) (base : Nat) (args : Array Value) (ds gs : List (DataW H)) (before : List MemPlace)
    (hval : ∀ (j : Nat) t v, Tryz.f9.params[j]? = some t → args[j]? = some v → Value.okWide Tryz.prog W .any base t v)
    (hW : DataW.Whole enc Tryz.prog Tryz.f9.params.toList Rows.fnResetSpec.vars false W args.toList ds gs before) (hsh : W.ShapedOpen Tryz.prog) :
    Calls Tryz.prog 9 args W fun e W' => ∃ v, e = .returned v ∧ Rows.fnResetSpec.post enc Tryz.prog Tryz.f9 false true false false W args v W' :=
  contract1 9 Tryz.f9 Rows.fnResetSpec Tryz.params9 rfl rfl (fun _ _ => rfl) wFnReset H enc W base args ds gs before hval hW hsh
theorem laid_met (os : Os) : laidMet Tryz.prog Rows.fnResetRow.laid ((laidWorld os).forCall (fun _ _ => 0) ⟨#[], #[.slice none 0 0], []⟩).memory :=
  laidMet_of_run' 8 (by kernel_rfl) (by kernel_rfl)
theorem reads (os : Os) {H : Type} (enc : TypeId × Value → H) : ∃ places, DataW.whole enc Tryz.prog ((laidWorld os).forCall (fun _ _ => 0) ⟨#[], #[.slice none 0 0], []⟩).memory Tryz.f9.params.toList Rows.fnResetSpec.vars false (#[.slice none 0 0] : Array Value).toList 8 = some ([.nil], [], places) :=
  ⟨[], by kernel_rfl⟩
theorem lifted (os : Os) (started : os.Started) (H : Type) (enc : TypeId × Value → H) (F : Stop.Interp) :
    ReturnsInHanded {} Tryz.checked os 9 .any ((OpenSpec.ofChange Rows.fnResetSpec).preRow enc Tryz.prog Tryz.f9 Rows.fnResetRow.domain false Rows.fnResetRow.laid) (((OpenSpec.ofChange Rows.fnResetSpec).at F).post enc Tryz.prog Tryz.f9 false true false false) := by
  obtain ⟨places, hx⟩ := reads os enc
  refine returnsInHanded_of_row (C := Tryz.checked) (s := OpenSpec.ofChange Rows.fnResetSpec) own started (by kernel_rfl) Tryz.func9
    (witness_row_at (enc := enc) (C := Tryz.checked) false (laidWorld os) #[.slice none 0 0] rfl (by kernel_rfl) (by kernel_rfl) (by kernel_rfl)
      (OpenSpec.preRow_of_cond 8 hx (by kernel_rfl) (fun k hk => by cases hk) (by kernel_rfl) (laid_met os))) ?_
  intro W base args ds gs before hval hW _ _ _ hL hsh _
  exact contract H enc W base args ds gs before hval hW hsh
theorem said : Rows.FnResetSaid :=
  OpenClaim.holds_of_cond 9 Tryz.f9 rfl rfl rfl rfl rfl rfl rfl ⟨rfl, rfl, rfl, rfl, rfl⟩ rfl rfl rfl rfl rfl (by kernel_rfl) Tryz.func9 (by kernel_rfl)
    (of_decide_eq_true (by kernel_rfl)) (by unfold Func.isWrapper; first | (rw [if_pos (by decide +kernel)]; kernel_rfl) | (rw [if_neg (by decide +kernel)]; exact ⟨rfl, rfl⟩))
    (fun os started H enc _ F => by rw [OpenClaim.pre_eq_preRow]; exact lifted os started H enc F)
/-- No parameter wants a stand-in; the program's own looks are off. -/
theorem plain (f : FuncId) (fn : Func) (hf : Tryz.pinned.checked.prog.funcNamed "loop.example/mailhost/laws.FnReset" = some f) (hfn : Tryz.pinned.checked.prog.funcs[f]? = some fn) :
    false = Tryz.pinned.checked.prog.looks [] ∧ ∀ (j : Nat) t, fn.params[j]? = some t → Tryz.pinned.checked.prog.wantsStandIn t = false := by
  obtain rfl : f = 9 := Option.some.inj ((show Tryz.prog.funcNamed "loop.example/mailhost/laws.FnReset" = some 9 by kernel_rfl).symm.trans hf) |>.symm
  obtain rfl : fn = Tryz.f9 := (Option.some.inj (Tryz.func9.symm.trans hfn)).symm
  refine ⟨by kernel_rfl, fun j t ht => ?_⟩
  rw [Tryz.params9] at ht
  obtain rfl : t = 22 := by have := Array.mem_of_getElem? ht; simpa using this
  exact (show Tryz.prog.wantsStandIn 22 = false by kernel_rfl)
theorem card : Rows.FnResetCardSaid :=
  Claim7.holds_tied_plain_at .later [] _ _ _ _ said (fun _ h => by cases h) (by kernel_rfl) (fun _ h => by cases h) fnReset_row_tie rfl ⟨rfl, rfl⟩ (by kernel_rfl) rfl plain (by kernel_rfl)
end Go.Proofs.YtahiahboneljaaaGreatDoor.fnReset
#print axioms Go.Proofs.YtahiahboneljaaaGreatDoor.fnReset.card
