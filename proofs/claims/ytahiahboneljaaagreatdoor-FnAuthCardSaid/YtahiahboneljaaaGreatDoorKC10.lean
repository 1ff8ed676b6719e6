/- The statement FnAuth (P118: a user proves a password): for every code and every second argument the law returns true and leaves both as they were. No condition of ours; the two tables of package utf8 read as the text lays them (the card ties that). -/
import Derived.Test.YtahiahboneljaaaGreatDoorKLb
import Derived.Test.YtahiahboneljaaaGreatDoorKC
namespace Go.Proofs.YtahiahboneljaaaGreatDoor
open Go.RowKit

set_option maxHeartbeats 4000000 in
set_option maxRecDepth 100000 in
theorem wFnAuth (v : Value) (v2 : Value) (m : Int) (w : World) (h : CodeAt w v) (h2 : CodeAt w v2) (hm : w.cell? ⟨0, 0, none⟩ = some (.int .i64 m)) :
    Calls Tryz.prog 10 #[v, v2] w fun e w' => e = .returned (.bool true) ∧ Kept [] w w' := by
  obtain ⟨a0, cap, b, off, xs, rfl, hc, ha, hx⟩ := id h
  have HC := hid h
  have HM := hid hm
  obtain ⟨b0, capb, bb, offb, ys, rfl, hcb, hab, hxb⟩ := h2
  clear h hm ha hx hab hxb
  by_cases hbig : (1048576 : Int) < xs.length
  · go_enter Tryz.func10, Tryz.ntmps10
    go_wp2
    go_ret
    exact ⟨rfl, Kept.refl _ _⟩
  by_cases hbig2 : (1048576 : Int) < ys.length
  · go_enter Tryz.func10, Tryz.ntmps10
    go_wp2
    go_ret
    exact ⟨rfl, Kept.refl _ _⟩
  go_enter Tryz.func10, Tryz.ntmps10
  go_wp2_with fail
  refine (drawSubLine_any _ _ HC.out).mono ?_
  rintro e w1 ⟨sv, uv, s, us, d, l, rfl, hs, hu, hd, hl, hK⟩
  obtain ⟨tv, rfl, hst, hul, htl⟩ := id hs
  obtain ⟨ta, tcap, rfl⟩ := hst.form
  obtain ⟨ua, ucap, rfl⟩ := users_form hu
  have HS1 := hid hs
  have HUU := hid hu
  have HK := hid hK
  have hm1 := hK.cell_some HM.out (by simp)
  have HM1 := hid hm1
  have hdd : d.length ≤ bigN := by unfold bigN; omega
  have hll : l.length + 1 ≤ bigN := by unfold bigN; omega
  have HDL := hid (And.intro hdd (And.intro hll (And.intro hul htl)))
  have HI := hid (fun W l (hl : l.length + 1 ≤ bigN) (k : Kept [] w1 W) => iSubLine_any (.agg #[.int .i64 s.stage, .string (bs s.user), .slice ta s.to.length tcap, .string (bs s.text)]) (.slice ua us.length ucap) s us d l m W (HS1.out.kept0 k) (HUU.out.kept0 k) HDL.out.1 hl (k.cell_some HM1.out (by simp)))
  have HSP := hid (fun W (k : Kept [] w1 W) => sSubLine_any (.agg #[.int .i64 s.stage, .string (bs s.user), .slice ta s.to.length tcap, .string (bs s.text)]) (.slice ua us.length ucap) s us d l W (HS1.out.kept0 k) (HUU.out.kept0 k) HDL.out.1 HDL.out.2.1)
  have HX : Hid (subLineP s us d l = subLineP s us d l) := rfl
  have HI1 := hid (fun W (k : Kept [] w1 W) => HI.out W l HDL.out.2.1 k)
  generalize hxx : subLineP s us d l = x at HX HI1 HSP
  have HXX := hid hxx
  clear hxx HX hst hu hd hl hK hul htl hm1 hdd hll hs
  have SA := hid HS1.out
  have KK := hid (Kept.refl [] w1)
  go_wp2_with fail
  refine calls_world (fun W => W.heap[w1.heap.size]? = some (.cells #[.int .i64 s.stage, .string (bs s.user), .slice ta s.to.length tcap, .string (bs s.text)] 25 (0, 0)) ∧ Kept [] w1 W) ⟨new_block w1 _, (Kept.refl _ _).alloc _⟩ ?_
  rintro W1 ⟨hbn, hK⟩
  have HA := hid hbn
  clear hbn
  replace SA := hid (SA.out.kept0 hK)
  replace KK := hid (KK.out.trans hK)
  clear hK
  refine (HI1.out _ KK.out).mono ?_
  rintro e w102 he
  obtain ⟨ta2, tc2, rfl, hs, hK⟩ := he.is
  clear he
  have SB := hid hs
  clear hs
  try clear A0 A1 A2 A3 lA
  replace HA := hid (hK.same HA.out (by simp))
  replace SA := hid (SA.out.kept0 hK)
  replace KK := hid (KK.out.trans hK)
  clear hK
  have hbA := HA.out
  have A0 := cell_of_block hbA 0
  have A1 := cell_of_block hbA 1
  have A2 := cell_of_block hbA 2
  have A3 := cell_of_block hbA 3
  simp at A0 A1 A2 A3
  have lA := lt_of_block hbA
  clear hbA
  go_wp2_with fail
  refine calls_world (fun W => W.heap[w102.heap.size]? = some (.cells #[.int .i64 x.1.stage, .string (bs x.1.user), .slice ta2 x.1.to.length tc2, .string (bs x.1.text)] 25 (0, 0)) ∧ Kept [] w102 W) ⟨new_block w102 _, (Kept.refl _ _).alloc _⟩ ?_
  rintro W3 ⟨hbn, hK⟩
  have HB := hid hbn
  clear hbn
  replace SB := hid (SB.out.kept0 hK)
  try clear A0 A1 A2 A3 lA
  replace HA := hid (hK.same HA.out (by simp))
  replace SA := hid (SA.out.kept0 hK)
  replace KK := hid (KK.out.trans hK)
  clear hK
  refine (HSP.out _ KK.out).mono ?_
  rintro e w104 he
  obtain ⟨ta4, tc4, rfl, hs, hK⟩ := he.is
  clear he
  have SC := hid hs
  clear hs
  try clear A0 A1 A2 A3 lA
  try clear B0 B1 B2 B3 lB
  replace HA := hid (hK.same HA.out (by simp))
  replace SA := hid (SA.out.kept0 hK)
  replace HB := hid (hK.same HB.out (by simp))
  replace SB := hid (SB.out.kept0 hK)
  replace KK := hid (KK.out.trans hK)
  clear hK
  have hbA := HA.out
  have A0 := cell_of_block hbA 0
  have A1 := cell_of_block hbA 1
  have A2 := cell_of_block hbA 2
  have A3 := cell_of_block hbA 3
  simp at A0 A1 A2 A3
  have lA := lt_of_block hbA
  clear hbA
  have hbB := HB.out
  have B0 := cell_of_block hbB 0
  have B1 := cell_of_block hbB 1
  have B2 := cell_of_block hbB 2
  have B3 := cell_of_block hbB 3
  simp at B0 B1 B2 B3
  have lB := lt_of_block hbB
  clear hbB
  by_cases hneg : x.2 < 0
  · go_wp2_with fail
    refine calls_world (fun W => W.heap[w104.heap.size]? = some (.cells #[.int .i64 x.1.stage, .string (bs x.1.user), .slice ta4 x.1.to.length tc4, .string (bs x.1.text)] 25 (0, 0)) ∧ Kept [] w104 W) ⟨new_block w104 _, (Kept.refl _ _).alloc _⟩ ?_
    rintro W5 ⟨hbn, hK⟩
    have HC := hid hbn
    clear hbn
    replace SC := hid (SC.out.kept0 hK)
    try clear A0 A1 A2 A3 lA
    try clear B0 B1 B2 B3 lB
    replace HA := hid (hK.same HA.out (by simp))
    replace SA := hid (SA.out.kept0 hK)
    replace HB := hid (hK.same HB.out (by simp))
    replace SB := hid (SB.out.kept0 hK)
    replace KK := hid (KK.out.trans hK)
    clear hK
    refine (sameSub_self 0 0 _ _ _ _ SB.out SC.out).mono ?_
    rintro e w106 ⟨rfl, hK⟩
    try clear A0 A1 A2 A3 lA
    try clear B0 B1 B2 B3 lB
    try clear C0 C1 C2 C3 lC
    replace HA := hid (hK.same HA.out (by simp))
    replace SA := hid (SA.out.kept0 hK)
    replace HB := hid (hK.same HB.out (by simp))
    replace SB := hid (SB.out.kept0 hK)
    replace HC := hid (hK.same HC.out (by simp))
    replace SC := hid (SC.out.kept0 hK)
    replace KK := hid (KK.out.trans hK)
    clear hK
    have hbA := HA.out
    have A0 := cell_of_block hbA 0
    have A1 := cell_of_block hbA 1
    have A2 := cell_of_block hbA 2
    have A3 := cell_of_block hbA 3
    simp at A0 A1 A2 A3
    have lA := lt_of_block hbA
    clear hbA
    have hbB := HB.out
    have B0 := cell_of_block hbB 0
    have B1 := cell_of_block hbB 1
    have B2 := cell_of_block hbB 2
    have B3 := cell_of_block hbB 3
    simp at B0 B1 B2 B3
    have lB := lt_of_block hbB
    clear hbB
    have hbC := HC.out
    have C0 := cell_of_block hbC 0
    have C1 := cell_of_block hbC 1
    have C2 := cell_of_block hbC 2
    have C3 := cell_of_block hbC 3
    simp at C0 C1 C2 C3
    have lC := lt_of_block hbC
    clear hbC
    go_wp2_with fail
    refine (sameSub_self 0 0 _ _ _ _ SB.out SC.out).mono ?_
    rintro e w107 ⟨rfl, hK⟩
    try clear A0 A1 A2 A3 lA
    try clear B0 B1 B2 B3 lB
    try clear C0 C1 C2 C3 lC
    replace HA := hid (hK.same HA.out (by simp))
    replace SA := hid (SA.out.kept0 hK)
    replace HB := hid (hK.same HB.out (by simp))
    replace SB := hid (SB.out.kept0 hK)
    replace HC := hid (hK.same HC.out (by simp))
    replace SC := hid (SC.out.kept0 hK)
    replace KK := hid (KK.out.trans hK)
    clear hK
    have hbA := HA.out
    have A0 := cell_of_block hbA 0
    have A1 := cell_of_block hbA 1
    have A2 := cell_of_block hbA 2
    have A3 := cell_of_block hbA 3
    simp at A0 A1 A2 A3
    have lA := lt_of_block hbA
    clear hbA
    have hbB := HB.out
    have B0 := cell_of_block hbB 0
    have B1 := cell_of_block hbB 1
    have B2 := cell_of_block hbB 2
    have B3 := cell_of_block hbB 3
    simp at B0 B1 B2 B3
    have lB := lt_of_block hbB
    clear hbB
    have hbC := HC.out
    have C0 := cell_of_block hbC 0
    have C1 := cell_of_block hbC 1
    have C2 := cell_of_block hbC 2
    have C3 := cell_of_block hbC 3
    simp at C0 C1 C2 C3
    have lC := lt_of_block hbC
    clear hbC
    go_wp2
    go_ret
    exact ⟨rfl, HK.out.trans KK.out⟩
  go_wp2_with fail
  refine calls_world (fun W => W.heap[w104.heap.size]? = some (.cells #[.int .i64 x.1.stage, .string (bs x.1.user), .slice ta4 x.1.to.length tc4, .string (bs x.1.text)] 25 (0, 0)) ∧ Kept [] w104 W) ⟨new_block w104 _, (Kept.refl _ _).alloc _⟩ ?_
  rintro W5 ⟨hbn, hK⟩
  have HC := hid hbn
  clear hbn
  replace SC := hid (SC.out.kept0 hK)
  try clear A0 A1 A2 A3 lA
  try clear B0 B1 B2 B3 lB
  replace HA := hid (hK.same HA.out (by simp))
  replace SA := hid (SA.out.kept0 hK)
  replace HB := hid (hK.same HB.out (by simp))
  replace SB := hid (SB.out.kept0 hK)
  replace KK := hid (KK.out.trans hK)
  clear hK
  refine (sameSub_self 0 0 _ _ _ _ SB.out SC.out).mono ?_
  rintro e w106 ⟨rfl, hK⟩
  try clear A0 A1 A2 A3 lA
  try clear B0 B1 B2 B3 lB
  try clear C0 C1 C2 C3 lC
  replace HA := hid (hK.same HA.out (by simp))
  replace SA := hid (SA.out.kept0 hK)
  replace HB := hid (hK.same HB.out (by simp))
  replace SB := hid (SB.out.kept0 hK)
  replace HC := hid (hK.same HC.out (by simp))
  replace SC := hid (SC.out.kept0 hK)
  replace KK := hid (KK.out.trans hK)
  clear hK
  have hbA := HA.out
  have A0 := cell_of_block hbA 0
  have A1 := cell_of_block hbA 1
  have A2 := cell_of_block hbA 2
  have A3 := cell_of_block hbA 3
  simp at A0 A1 A2 A3
  have lA := lt_of_block hbA
  clear hbA
  have hbB := HB.out
  have B0 := cell_of_block hbB 0
  have B1 := cell_of_block hbB 1
  have B2 := cell_of_block hbB 2
  have B3 := cell_of_block hbB 3
  simp at B0 B1 B2 B3
  have lB := lt_of_block hbB
  clear hbB
  have hbC := HC.out
  have C0 := cell_of_block hbC 0
  have C1 := cell_of_block hbC 1
  have C2 := cell_of_block hbC 2
  have C3 := cell_of_block hbC 3
  simp at C0 C1 C2 C3
  have lC := lt_of_block hbC
  clear hbC
  go_wp2_with fail
  refine (open_any 0 _ s _ SA.out).mono ?_
  rintro e w107 ⟨rfl, hK⟩
  try clear A0 A1 A2 A3 lA
  try clear B0 B1 B2 B3 lB
  try clear C0 C1 C2 C3 lC
  replace HA := hid (hK.same HA.out (by simp))
  replace SA := hid (SA.out.kept0 hK)
  replace HB := hid (hK.same HB.out (by simp))
  replace SB := hid (SB.out.kept0 hK)
  replace HC := hid (hK.same HC.out (by simp))
  replace SC := hid (SC.out.kept0 hK)
  replace KK := hid (KK.out.trans hK)
  clear hK
  have hbA := HA.out
  have A0 := cell_of_block hbA 0
  have A1 := cell_of_block hbA 1
  have A2 := cell_of_block hbA 2
  have A3 := cell_of_block hbA 3
  simp at A0 A1 A2 A3
  have lA := lt_of_block hbA
  clear hbA
  have hbB := HB.out
  have B0 := cell_of_block hbB 0
  have B1 := cell_of_block hbB 1
  have B2 := cell_of_block hbB 2
  have B3 := cell_of_block hbB 3
  simp at B0 B1 B2 B3
  have lB := lt_of_block hbB
  clear hbB
  have hbC := HC.out
  have C0 := cell_of_block hbC 0
  have C1 := cell_of_block hbC 1
  have C2 := cell_of_block hbC 2
  have C3 := cell_of_block hbC 3
  simp at C0 C1 C2 C3
  have lC := lt_of_block hbC
  clear hbC
  cases ho : opn s with
  | false =>
    have HO := hid ho
    clear ho
    go_wp2_with fail
    refine (sameSub_self 0 0 _ _ _ _ SB.out SC.out).mono ?_
    rintro e w108 ⟨rfl, hK⟩
    try clear A0 A1 A2 A3 lA
    try clear B0 B1 B2 B3 lB
    try clear C0 C1 C2 C3 lC
    replace HA := hid (hK.same HA.out (by simp))
    replace SA := hid (SA.out.kept0 hK)
    replace HB := hid (hK.same HB.out (by simp))
    replace SB := hid (SB.out.kept0 hK)
    replace HC := hid (hK.same HC.out (by simp))
    replace SC := hid (SC.out.kept0 hK)
    replace KK := hid (KK.out.trans hK)
    clear hK
    have hbA := HA.out
    have A0 := cell_of_block hbA 0
    have A1 := cell_of_block hbA 1
    have A2 := cell_of_block hbA 2
    have A3 := cell_of_block hbA 3
    simp at A0 A1 A2 A3
    have lA := lt_of_block hbA
    clear hbA
    have hbB := HB.out
    have B0 := cell_of_block hbB 0
    have B1 := cell_of_block hbB 1
    have B2 := cell_of_block hbB 2
    have B3 := cell_of_block hbB 3
    simp at B0 B1 B2 B3
    have lB := lt_of_block hbB
    clear hbB
    have hbC := HC.out
    have C0 := cell_of_block hbC 0
    have C1 := cell_of_block hbC 1
    have C2 := cell_of_block hbC 2
    have C3 := cell_of_block hbC 3
    simp at C0 C1 C2 C3
    have lC := lt_of_block hbC
    clear hbC
    go_wp2
    go_ret
    exact ⟨rfl, HK.out.trans KK.out⟩
  | true =>
    have HO := hid ho
    have HV := hid (line_valid (s := s) (us := us) (d := d) (l := l) (by rw [HXX.out]; omega))
    clear ho HXX HI1 HSP
    have hus : us ≠ [] := by
      intro e; have := HV.out.2.1; rw [e] at this; cases this
    have hpos : 0 < us.length := List.length_pos_iff.mpr hus
    clear hus
    obtain ⟨j, hj, e1, e2⟩ : ∃ j : Nat, j < us.length ∧ (ys.length : Int).tmod (us.length : Int) = (j : Int) ∧ (ys.length : Int) % (us.length : Int) = (j : Int) :=
      ⟨ys.length % us.length, Nat.mod_lt _ hpos, by rw [Int.tmod_eq_emod_of_nonneg (by omega)]; rfl, rfl⟩
    have hu2 := HUU.out.kept0 KK.out
    obtain ⟨ua', ucap', ub, uoff, hue, hul2, hua, huc⟩ := hu2
    injection hue with z1 z2 z3
    subst z1 z3
    obtain ⟨rfl, -, hub⟩ := hua hpos
    obtain ⟨u0, u1, u2, un, up⟩ := huc j hj
    generalize hgu : us[j] = u at u0 u1 u2 un up
    have hmem : u ∈ us := by rw [← hgu]; exact List.getElem_mem hj
    have HAU := hid (fun s d (h : opn s = true) => ln_auth (s := s) (us := us) (d := d) h HV.out.2.1 u hmem)
    have HUN := hid (And.intro un up)
    have i1 : (0 : Int) ≤ j := by omega
    have i2 : (j : Int) < us.length := by omega
    have i3 : ((us.length : Int) == 0) = false := by rw [beq_eq_false_iff_ne]; omega
    clear z2 hul2 hua huc hgu hmem un up
    go_wp2
    refine gen_world (fun W => W.heap[w107.heap.size]? = some (.cells #[.string (bs u.name), .string (bs u.pass), .int .i64 u.quota] 35 (0, 0)) ∧ Kept [] w107 W) ⟨new_block _ _, (Kept.refl _ _).alloc _⟩ ?_
    rintro W8 ⟨hbu, hK⟩
    have HUB := hid hbu
    clear hbu u0 u1 u2 hub
    try clear A0 A1 A2 A3 lA
    try clear B0 B1 B2 B3 lB
    try clear C0 C1 C2 C3 lC
    replace HA := hid (hK.same HA.out (by simp))
    replace SA := hid (SA.out.kept0 hK)
    replace HB := hid (hK.same HB.out (by simp))
    replace SB := hid (SB.out.kept0 hK)
    replace HC := hid (hK.same HC.out (by simp))
    replace SC := hid (SC.out.kept0 hK)
    replace KK := hid (KK.out.trans hK)
    clear hK
    have hbA := HA.out
    have A0 := cell_of_block hbA 0
    have A1 := cell_of_block hbA 1
    have A2 := cell_of_block hbA 2
    have A3 := cell_of_block hbA 3
    simp at A0 A1 A2 A3
    have lA := lt_of_block hbA
    clear hbA
    have hbB := HB.out
    have B0 := cell_of_block hbB 0
    have B1 := cell_of_block hbB 1
    have B2 := cell_of_block hbB 2
    have B3 := cell_of_block hbB 3
    simp at B0 B1 B2 B3
    have lB := lt_of_block hbB
    clear hbB
    have hbC := HC.out
    have C0 := cell_of_block hbC 0
    have C1 := cell_of_block hbC 1
    have C2 := cell_of_block hbC 2
    have C3 := cell_of_block hbC 3
    simp at C0 C1 C2 C3
    have lC := lt_of_block hbC
    clear hbC
    have CK := hid (fun w' (h : Kept [] W8 w') => show w'.cell? ⟨w1.heap.size, 0, none⟩ = some (.int .i64 s.stage) ∧ w'.cell? ⟨w1.heap.size, 1, none⟩ = some (.string (bs s.user)) ∧ w'.cell? ⟨w1.heap.size, 2, none⟩ = some (.slice ta s.to.length tcap) ∧ w'.cell? ⟨w1.heap.size, 3, none⟩ = some (.string (bs s.text)) ∧ w'.cell? ⟨w107.heap.size, 0, none⟩ = some (.string (bs u.name)) ∧ w'.cell? ⟨w107.heap.size, 1, none⟩ = some (.string (bs u.pass)) from by
      have hb := h.same HA.out (by simp)
      have hu := h.same HUB.out (by simp)
      exact ⟨by rw [cell_of_block hb]; rfl, by rw [cell_of_block hb]; rfl, by rw [cell_of_block hb]; rfl, by rw [cell_of_block hb]; rfl, by rw [cell_of_block hu]; rfl, by rw [cell_of_block hu]; rfl⟩)
    have hUB := HUB.out
    have U0 := cell_of_block hUB 0
    have U1 := cell_of_block hUB 1
    simp at U0 U1
    clear hUB
    have hmk := makeP_le u.name u.pass
    have HMK := hid hmk
    have n1 : ¬ 9223372036854775807 < 11 + (makeP u.name u.pass).length := by omega
    clear hmk
    have HPM := hid (fun W => iPlainMake_any u.name u.pass W HUN.out.1 HUN.out.2)
    by_cases h1 : s.stage = 1
    · have H1 := hid h1
      have h1' : (s.stage != 1) = false := by simp [h1]
      clear h1
      have HSL := hid (fun W (k : Kept [] W8 W) => by
        have hc := HI.out W (authL ++ makeP u.name u.pass) (by have := HMK.out; unfold bigN; simp [authL]; omega) (KK.out.trans k)
        rw [line_of HV.out, HAU.out s d HO.out, if_neg (by have := H1.out; omega), ← append_bs] at hc
        exact hc)
      go_region_held3 (fun w' => w'.cell? ⟨w1.heap.size, 0, none⟩ = some (.int .i64 s.stage) ∧ w'.cell? ⟨w1.heap.size, 1, none⟩ = some (.string (bs s.user)) ∧ w'.cell? ⟨w1.heap.size, 2, none⟩ = some (.slice ta s.to.length tcap) ∧ w'.cell? ⟨w1.heap.size, 3, none⟩ = some (.string (bs s.text)) ∧ w'.cell? ⟨w107.heap.size, 0, none⟩ = some (.string (bs u.name)) ∧ w'.cell? ⟨w107.heap.size, 1, none⟩ = some (.string (bs u.pass)))
        (first
          | go_keep
          | exact CK.out _ (by repeat' with_reducible first | exact hKK3 | exact hKK2 | exact Kept.refl _ _ | refine Kept.setCell ?_ _ _ (by intro hh; dsimp only at hh; omega) | refine Kept.drew ?_ | refine Kept.alloc ?_ _))
        (first
          | (go_at_call 16
             refine (HPM.out _).mono ?_
             rintro e w2 ⟨rfl, hK⟩
             have hKK2 : Kept [] W8 w2 := Kept.trans (by repeat' with_reducible first | exact Kept.refl _ _ | refine Kept.drew ?_ | refine Kept.alloc ?_ _) hK
             have hsz2 := hKK2.size
             try have hn2 := hK.same (new_block W8 (.cells #[.int .i64 0, .string ⟨#[]⟩, .slice none 0 0, .string ⟨#[]⟩] 25)) (by simp))
          | (go_at_call 12
             refine (HSL.out _ ?_).mono ?_
             · repeat' with_reducible first | exact hKK2 | refine Kept.drew ?_ | refine Kept.alloc ?_ _
             rintro e w3 he
             obtain ⟨ta3, tc3, rfl, hs3, hK⟩ := he.is
             have hKK3 : Kept [] W8 w3 := Kept.trans (by repeat' with_reducible first | exact hKK2 | refine Kept.drew ?_ | refine Kept.alloc ?_ _) hK
             have hbA3 := hKK3.same HA.out (by simp)
             have A0 := cell_of_block hbA3 0
             have A1 := cell_of_block hbA3 1
             have A2 := cell_of_block hbA3 2
             have A3 := cell_of_block hbA3 3
             have lA := lt_of_block hbA3
             have hbU3 := hKK3.same HUB.out (by simp)
             have U0 := cell_of_block hbU3 0
             have U1 := cell_of_block hbU3 1
             have lU := lt_of_block hbU3
             simp at A0 A1 A2 A3 U0 U1
             try have hn3 := hK.same hn2 (by simp)
             try have hn3 := hK.same (new_block w2 (.cells #[.int .i64 0, .string ⟨#[]⟩, .slice none 0 0, .string ⟨#[]⟩] 25)) (by simp)
             try have q0 := cell_of_block hn3 0
             try have q1 := cell_of_block hn3 1
             try have q2 := cell_of_block hn3 2
             try have q3 := cell_of_block hn3 3
             try have f0 := frozen_of_block hn3 0
             try have f1 := frozen_of_block hn3 1
             try have f2 := frozen_of_block hn3 2
             try have f3 := frozen_of_block hn3 3
             try have lq := lt_of_block hn3
             try simp at q0 q1 q2 q3))
      all_goals
        go_wp2_with fail
        refine (sameSub_self 0 0 _ _ ⟨2, u.name, [], []⟩ _ ?_ (sub_lit _ _ _ HUN.out.1)).mono ?_
        · first
          | exact hs3.keptZ (by simp) hn3 (by repeat' with_reducible first | exact Kept.refl _ _ | refine Kept.setCell ?_ _ _ (by simp) | refine Kept.drew ?_ | refine Kept.alloc ?_ _)
          | exact hs3.kept0 (by repeat' with_reducible first | exact Kept.refl _ _ | refine Kept.drew ?_ | refine Kept.alloc ?_ _)
        rintro e w200 ⟨rfl, hK2⟩
        go_wp2
        go_ret
        refine ⟨rfl, HK.out.trans (KK.out.trans (Kept.trans ?_ hK2))⟩
        repeat' with_reducible first | exact hKK3 | refine Kept.setCell ?_ _ _ (by intro hh; dsimp only at hh; omega) | refine Kept.drew ?_ | refine Kept.alloc ?_ _
    · have H1 := hid h1
      have h1' : (s.stage != 1) = true := by simp [h1]
      clear h1
      have HSL := hid (fun W (k : Kept [] W8 W) => by
        have hc := HI.out W (authL ++ makeP u.name u.pass) (by have := HMK.out; unfold bigN; simp [authL]; omega) (KK.out.trans k)
        rw [line_of HV.out, HAU.out s d HO.out, if_pos H1.out, ← append_bs] at hc
        exact hc)
      go_region_held3 (fun w' => w'.cell? ⟨w1.heap.size, 0, none⟩ = some (.int .i64 s.stage) ∧ w'.cell? ⟨w1.heap.size, 1, none⟩ = some (.string (bs s.user)) ∧ w'.cell? ⟨w1.heap.size, 2, none⟩ = some (.slice ta s.to.length tcap) ∧ w'.cell? ⟨w1.heap.size, 3, none⟩ = some (.string (bs s.text)) ∧ w'.cell? ⟨w107.heap.size, 0, none⟩ = some (.string (bs u.name)) ∧ w'.cell? ⟨w107.heap.size, 1, none⟩ = some (.string (bs u.pass)))
        (first
          | go_keep
          | exact CK.out _ (by repeat' with_reducible first | exact hKK3 | exact hKK2 | exact Kept.refl _ _ | refine Kept.setCell ?_ _ _ (by intro hh; dsimp only at hh; omega) | refine Kept.drew ?_ | refine Kept.alloc ?_ _))
        (first
          | (go_at_call 16
             refine (HPM.out _).mono ?_
             rintro e w2 ⟨rfl, hK⟩
             have hKK2 : Kept [] W8 w2 := Kept.trans (by repeat' with_reducible first | exact Kept.refl _ _ | refine Kept.drew ?_ | refine Kept.alloc ?_ _) hK
             have hsz2 := hKK2.size
             try have hn2 := hK.same (new_block W8 (.cells #[.int .i64 0, .string ⟨#[]⟩, .slice none 0 0, .string ⟨#[]⟩] 25)) (by simp))
          | (go_at_call 12
             refine (HSL.out _ ?_).mono ?_
             · repeat' with_reducible first | exact hKK2 | refine Kept.drew ?_ | refine Kept.alloc ?_ _
             rintro e w3 he
             obtain ⟨ta3, tc3, rfl, hs3, hK⟩ := he.is
             have hKK3 : Kept [] W8 w3 := Kept.trans (by repeat' with_reducible first | exact hKK2 | refine Kept.drew ?_ | refine Kept.alloc ?_ _) hK
             have hbA3 := hKK3.same HA.out (by simp)
             have A0 := cell_of_block hbA3 0
             have A1 := cell_of_block hbA3 1
             have A2 := cell_of_block hbA3 2
             have A3 := cell_of_block hbA3 3
             have lA := lt_of_block hbA3
             have hbU3 := hKK3.same HUB.out (by simp)
             have U0 := cell_of_block hbU3 0
             have U1 := cell_of_block hbU3 1
             have lU := lt_of_block hbU3
             simp at A0 A1 A2 A3 U0 U1
             try have hn3 := hK.same hn2 (by simp)
             try have hn3 := hK.same (new_block w2 (.cells #[.int .i64 0, .string ⟨#[]⟩, .slice none 0 0, .string ⟨#[]⟩] 25)) (by simp)
             try have q0 := cell_of_block hn3 0
             try have q1 := cell_of_block hn3 1
             try have q2 := cell_of_block hn3 2
             try have q3 := cell_of_block hn3 3
             try have f0 := frozen_of_block hn3 0
             try have f1 := frozen_of_block hn3 1
             try have f2 := frozen_of_block hn3 2
             try have f3 := frozen_of_block hn3 3
             try have lq := lt_of_block hn3
             try simp at q0 q1 q2 q3))
      all_goals
        go_wp2_with fail
        refine (sameSub_self 0 0 _ _ s _ ?_ ?_).mono ?_
        · first
          | exact hs3.keptZ (sub_names HV.out.1) hn3 (by repeat' with_reducible first | exact Kept.refl _ _ | refine Kept.setCell ?_ _ _ (by simp) | refine Kept.drew ?_ | refine Kept.alloc ?_ _)
          | exact hs3.kept0 (by repeat' with_reducible first | exact Kept.refl _ _ | refine Kept.drew ?_ | refine Kept.alloc ?_ _)
        · first
          | exact (SA.out.kept0 hKK3).keptZ (sub_names HV.out.1) hn3 (by repeat' with_reducible first | exact Kept.refl _ _ | refine Kept.setCell ?_ _ _ (by simp) | refine Kept.drew ?_ | refine Kept.alloc ?_ _)
          | exact (SA.out.kept0 hKK3).kept0 (by repeat' with_reducible first | exact Kept.refl _ _ | refine Kept.drew ?_ | refine Kept.alloc ?_ _)
        rintro e w200 ⟨rfl, hK2⟩
        go_wp2
        go_ret
        refine ⟨rfl, HK.out.trans (KK.out.trans (Kept.trans ?_ hK2))⟩
        repeat' with_reducible first | exact hKK3 | refine Kept.setCell ?_ _ _ (by intro hh; dsimp only at hh; omega) | refine Kept.drew ?_ | refine Kept.alloc ?_ _
end Go.Proofs.YtahiahboneljaaaGreatDoor
namespace Go.Proofs.YtahiahboneljaaaGreatDoor.fnAuth
open Go.ChangeShapes Go.WideShapes Go.ChangeAt Go.RowKit
set_option maxRecDepth 100000

theorem contract (H : Type) (enc : TypeId × Value → H) (W : World) (base : Nat) (args : Array Value) (ds gs : List (DataW H)) (before : List MemPlace)
    (hval : ∀ (j : Nat) t v, Tryz.f10.params[j]? = some t → args[j]? = some v → Value.okWide Tryz.prog W .any base t v)
    (hW : DataW.Whole enc Tryz.prog Tryz.f10.params.toList Rows.fnAuthSpec.vars false W args.toList ds gs before) (hsh : W.ShapedOpen Tryz.prog) :
    Calls Tryz.prog 10 args W fun e W' => ∃ v, e = .returned v ∧ Rows.fnAuthSpec.post enc Tryz.prog Tryz.f10 false true false false W args v W' :=
  contract2 10 Tryz.f10 Rows.fnAuthSpec Tryz.params10 rfl rfl (fun _ _ _ => rfl) wFnAuth H enc W base args ds gs before hval hW hsh
theorem laid_met (os : Os) : laidMet Tryz.prog Rows.fnAuthRow.laid ((laidWorld os).forCall (fun _ _ => 0) ⟨#[], #[.slice none 0 0, .slice none 0 0], []⟩).memory :=
  laidMet_of_run' 8 (by kernel_rfl) (by kernel_rfl)
theorem reads (os : Os) {H : Type} (enc : TypeId × Value → H) : ∃ places, DataW.whole enc Tryz.prog ((laidWorld os).forCall (fun _ _ => 0) ⟨#[], #[.slice none 0 0, .slice none 0 0], []⟩).memory Tryz.f10.params.toList Rows.fnAuthSpec.vars false (#[.slice none 0 0, .slice none 0 0] : Array Value).toList 8 = some ([.nil, .nil], [], places) :=
  ⟨[], by kernel_rfl⟩
theorem lifted (os : Os) (started : os.Started) (H : Type) (enc : TypeId × Value → H) (F : Stop.Interp) :
    ReturnsInHanded {} Tryz.checked os 10 .any ((OpenSpec.ofChange Rows.fnAuthSpec).preRow enc Tryz.prog Tryz.f10 Rows.fnAuthRow.domain false Rows.fnAuthRow.laid) (((OpenSpec.ofChange Rows.fnAuthSpec).at F).post enc Tryz.prog Tryz.f10 false true false false) := by
  obtain ⟨places, hx⟩ := reads os enc
  refine returnsInHanded_of_row (C := Tryz.checked) (s := OpenSpec.ofChange Rows.fnAuthSpec) own started (by kernel_rfl) Tryz.func10
    (witness_row_at (enc := enc) (C := Tryz.checked) false (laidWorld os) #[.slice none 0 0, .slice none 0 0] rfl (by kernel_rfl) (by kernel_rfl) (by kernel_rfl)
      (OpenSpec.preRow_of_cond 8 hx (by kernel_rfl) (fun k hk => by cases hk) (by kernel_rfl) (laid_met os))) ?_
  intro W base args ds gs before hval hW _ _ _ hL hsh _
  exact contract H enc W base args ds gs before hval hW hsh
theorem said : Rows.FnAuthSaid :=
  OpenClaim.holds_of_cond 10 Tryz.f10 rfl rfl rfl rfl rfl rfl rfl ⟨rfl, rfl, rfl, rfl, rfl⟩ rfl rfl rfl rfl rfl (by kernel_rfl) Tryz.func10 (by kernel_rfl)
    (of_decide_eq_true (by kernel_rfl)) (by unfold Func.isWrapper; first | (rw [if_pos (by decide +kernel)]; kernel_rfl) | (rw [if_neg (by decide +kernel)]; exact ⟨rfl, rfl⟩))
    (fun os started H enc _ F => by rw [OpenClaim.pre_eq_preRow]; exact lifted os started H enc F)
/-- No parameter wants a stand-in; the program's own looks are off. -/
theorem plain (f : FuncId) (fn : Func) (hf : Tryz.pinned.checked.prog.funcNamed "loop.example/mailhost/laws.FnAuth" = some f) (hfn : Tryz.pinned.checked.prog.funcs[f]? = some fn) :
    false = Tryz.pinned.checked.prog.looks [] ∧ ∀ (j : Nat) t, fn.params[j]? = some t → Tryz.pinned.checked.prog.wantsStandIn t = false := by
  obtain rfl : f = 10 := Option.some.inj ((show Tryz.prog.funcNamed "loop.example/mailhost/laws.FnAuth" = some 10 by kernel_rfl).symm.trans hf) |>.symm
  obtain rfl : fn = Tryz.f10 := (Option.some.inj (Tryz.func10.symm.trans hfn)).symm
  refine ⟨by kernel_rfl, fun j t ht => ?_⟩
  rw [Tryz.params10] at ht
  obtain rfl : t = 22 := by have := Array.mem_of_getElem? ht; simpa using this
  exact (show Tryz.prog.wantsStandIn 22 = false by kernel_rfl)
theorem card : Rows.FnAuthCardSaid :=
  Claim7.holds_tied_plain_at .later [] _ _ _ _ said (fun _ h => by cases h) (by kernel_rfl) (fun _ h => by cases h) fnAuth_row_tie rfl ⟨rfl, rfl⟩ (by kernel_rfl) rfl plain (by kernel_rfl)
end Go.Proofs.YtahiahboneljaaaGreatDoor.fnAuth
#print axioms Go.Proofs.YtahiahboneljaaaGreatDoor.fnAuth.card
