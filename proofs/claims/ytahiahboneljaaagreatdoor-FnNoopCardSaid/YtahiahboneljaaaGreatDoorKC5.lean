/- The statement FnNoop (P116: some lines change nothing): for every code the law returns true and leaves the code as it was. No condition of ours; the two tables of package utf8 read as the text lays them (the card ties that). -/
import Derived.Test.YtahiahboneljaaaGreatDoorKLa
import Derived.Test.YtahiahboneljaaaGreatDoorKC
namespace Go.Proofs.YtahiahboneljaaaGreatDoor
open Go.RowKit

set_option maxHeartbeats 4000000 in
set_option maxRecDepth 100000 in
theorem wFnNoop (v : Value) (m : Int) (w : World) (h : CodeAt w v) (hm : w.cell? ⟨0, 0, none⟩ = some (.int .i64 m)) :
    Calls Tryz.prog 7 #[v] w fun e w' => e = .returned (.bool true) ∧ Kept [] w w' := by
  obtain ⟨a0, cap, b, off, xs, rfl, hc, ha, hx⟩ := id h
  have HC := hid h
  have HM := hid hm
  clear h hm ha hx
  by_cases hbig : (1048576 : Int) < xs.length
  · go_enter Tryz.func7, Tryz.ntmps7
    go_wp2
    go_ret
    exact ⟨rfl, Kept.refl _ _⟩
  go_enter Tryz.func7, Tryz.ntmps7
  go_wp2_with fail
  refine (drawSubLine_any _ _ HC.out).mono ?_
  rintro e w1 ⟨sv, uv, s, us, d, l, rfl, hs, hu, hd, hl, hK⟩
  obtain ⟨tv, rfl, hst, hul, htl⟩ := id hs
  obtain ⟨ta, tcap, rfl⟩ := hst.form
  obtain ⟨ua, ucap, rfl⟩ := users_form hu
  have HS1 := hid hs
  have HUU := hid hu
  have HK := hid hK
  have hm1 := hK.cell_some HM.out (by simp)
  have HM1 := hid hm1
  have hdd : d.length ≤ bigN := by unfold bigN; omega
  have hll : l.length + 1 ≤ bigN := by unfold bigN; omega
  have HDL := hid (And.intro hdd (And.intro hll (And.intro hul htl)))
  have HI := hid (fun W l (hl : l.length + 1 ≤ bigN) (k : Kept [] w1 W) => iSubLine_any (.agg #[.int .i64 s.stage, .string (bs s.user), .slice ta s.to.length tcap, .string (bs s.text)]) (.slice ua us.length ucap) s us d l m W (HS1.out.kept0 k) (HUU.out.kept0 k) HDL.out.1 hl (k.cell_some HM1.out (by simp)))
  have HSP := hid (fun W (k : Kept [] w1 W) => sSubLine_any (.agg #[.int .i64 s.stage, .string (bs s.user), .slice ta s.to.length tcap, .string (bs s.text)]) (.slice ua us.length ucap) s us d l W (HS1.out.kept0 k) (HUU.out.kept0 k) HDL.out.1 HDL.out.2.1)
  have HX : Hid (subLineP s us d l = subLineP s us d l) := rfl
  have HI1 := hid (fun W (k : Kept [] w1 W) => HI.out W l HDL.out.2.1 k)
  generalize hxx : subLineP s us d l = x at HX HI1 HSP
  have HXX := hid hxx
  clear hxx HX hst hu hd hl hK hul htl hm1 hdd hll hs
  have SA := hid HS1.out
  have KK := hid (Kept.refl [] w1)
  go_wp2_with fail
  refine calls_world (fun W => W.heap[w1.heap.size]? = some (.cells #[.int .i64 s.stage, .string (bs s.user), .slice ta s.to.length tcap, .string (bs s.text)] 25 (0, 0)) ∧ Kept [] w1 W) ⟨new_block w1 _, (Kept.refl _ _).alloc _⟩ ?_
  rintro W1 ⟨hbn, hK⟩
  have HA := hid hbn
  clear hbn
  replace SA := hid (SA.out.kept0 hK)
  replace KK := hid (KK.out.trans hK)
  clear hK
  refine (HI1.out _ KK.out).mono ?_
  rintro e w102 he
  obtain ⟨ta2, tc2, rfl, hs, hK⟩ := he.is
  clear he
  have SB := hid hs
  clear hs
  try clear A0 A1 A2 A3 lA
  replace HA := hid (hK.same HA.out (by simp))
  replace SA := hid (SA.out.kept0 hK)
  replace KK := hid (KK.out.trans hK)
  clear hK
  have hbA := HA.out
  have A0 := cell_of_block hbA 0
  have A1 := cell_of_block hbA 1
  have A2 := cell_of_block hbA 2
  have A3 := cell_of_block hbA 3
  simp at A0 A1 A2 A3
  have lA := lt_of_block hbA
  clear hbA
  go_wp2_with fail
  refine calls_world (fun W => W.heap[w102.heap.size]? = some (.cells #[.int .i64 x.1.stage, .string (bs x.1.user), .slice ta2 x.1.to.length tc2, .string (bs x.1.text)] 25 (0, 0)) ∧ Kept [] w102 W) ⟨new_block w102 _, (Kept.refl _ _).alloc _⟩ ?_
  rintro W3 ⟨hbn, hK⟩
  have HB := hid hbn
  clear hbn
  replace SB := hid (SB.out.kept0 hK)
  try clear A0 A1 A2 A3 lA
  replace HA := hid (hK.same HA.out (by simp))
  replace SA := hid (SA.out.kept0 hK)
  replace KK := hid (KK.out.trans hK)
  clear hK
  refine (HSP.out _ KK.out).mono ?_
  rintro e w104 he
  obtain ⟨ta4, tc4, rfl, hs, hK⟩ := he.is
  clear he
  have SC := hid hs
  clear hs
  try clear A0 A1 A2 A3 lA
  try clear B0 B1 B2 B3 lB
  replace HA := hid (hK.same HA.out (by simp))
  replace SA := hid (SA.out.kept0 hK)
  replace HB := hid (hK.same HB.out (by simp))
  replace SB := hid (SB.out.kept0 hK)
  replace KK := hid (KK.out.trans hK)
  clear hK
  have hbA := HA.out
  have A0 := cell_of_block hbA 0
  have A1 := cell_of_block hbA 1
  have A2 := cell_of_block hbA 2
  have A3 := cell_of_block hbA 3
  simp at A0 A1 A2 A3
  have lA := lt_of_block hbA
  clear hbA
  have hbB := HB.out
  have B0 := cell_of_block hbB 0
  have B1 := cell_of_block hbB 1
  have B2 := cell_of_block hbB 2
  have B3 := cell_of_block hbB 3
  simp at B0 B1 B2 B3
  have lB := lt_of_block hbB
  clear hbB
  by_cases hneg : x.2 < 0
  · go_wp2_with fail
    refine calls_world (fun W => W.heap[w104.heap.size]? = some (.cells #[.int .i64 x.1.stage, .string (bs x.1.user), .slice ta4 x.1.to.length tc4, .string (bs x.1.text)] 25 (0, 0)) ∧ Kept [] w104 W) ⟨new_block w104 _, (Kept.refl _ _).alloc _⟩ ?_
    rintro W5 ⟨hbn, hK⟩
    have HC := hid hbn
    clear hbn
    replace SC := hid (SC.out.kept0 hK)
    try clear A0 A1 A2 A3 lA
    try clear B0 B1 B2 B3 lB
    replace HA := hid (hK.same HA.out (by simp))
    replace SA := hid (SA.out.kept0 hK)
    replace HB := hid (hK.same HB.out (by simp))
    replace SB := hid (SB.out.kept0 hK)
    replace KK := hid (KK.out.trans hK)
    clear hK
    refine (sameSub_self 0 0 _ _ _ _ SB.out SC.out).mono ?_
    rintro e w106 ⟨rfl, hK⟩
    try clear A0 A1 A2 A3 lA
    try clear B0 B1 B2 B3 lB
    try clear C0 C1 C2 C3 lC
    replace HA := hid (hK.same HA.out (by simp))
    replace SA := hid (SA.out.kept0 hK)
    replace HB := hid (hK.same HB.out (by simp))
    replace SB := hid (SB.out.kept0 hK)
    replace HC := hid (hK.same HC.out (by simp))
    replace SC := hid (SC.out.kept0 hK)
    replace KK := hid (KK.out.trans hK)
    clear hK
    have hbA := HA.out
    have A0 := cell_of_block hbA 0
    have A1 := cell_of_block hbA 1
    have A2 := cell_of_block hbA 2
    have A3 := cell_of_block hbA 3
    simp at A0 A1 A2 A3
    have lA := lt_of_block hbA
    clear hbA
    have hbB := HB.out
    have B0 := cell_of_block hbB 0
    have B1 := cell_of_block hbB 1
    have B2 := cell_of_block hbB 2
    have B3 := cell_of_block hbB 3
    simp at B0 B1 B2 B3
    have lB := lt_of_block hbB
    clear hbB
    have hbC := HC.out
    have C0 := cell_of_block hbC 0
    have C1 := cell_of_block hbC 1
    have C2 := cell_of_block hbC 2
    have C3 := cell_of_block hbC 3
    simp at C0 C1 C2 C3
    have lC := lt_of_block hbC
    clear hbC
    go_wp2_with fail
    refine (sameSub_self 0 0 _ _ _ _ SB.out SC.out).mono ?_
    rintro e w107 ⟨rfl, hK⟩
    try clear A0 A1 A2 A3 lA
    try clear B0 B1 B2 B3 lB
    try clear C0 C1 C2 C3 lC
    replace HA := hid (hK.same HA.out (by simp))
    replace SA := hid (SA.out.kept0 hK)
    replace HB := hid (hK.same HB.out (by simp))
    replace SB := hid (SB.out.kept0 hK)
    replace HC := hid (hK.same HC.out (by simp))
    replace SC := hid (SC.out.kept0 hK)
    replace KK := hid (KK.out.trans hK)
    clear hK
    have hbA := HA.out
    have A0 := cell_of_block hbA 0
    have A1 := cell_of_block hbA 1
    have A2 := cell_of_block hbA 2
    have A3 := cell_of_block hbA 3
    simp at A0 A1 A2 A3
    have lA := lt_of_block hbA
    clear hbA
    have hbB := HB.out
    have B0 := cell_of_block hbB 0
    have B1 := cell_of_block hbB 1
    have B2 := cell_of_block hbB 2
    have B3 := cell_of_block hbB 3
    simp at B0 B1 B2 B3
    have lB := lt_of_block hbB
    clear hbB
    have hbC := HC.out
    have C0 := cell_of_block hbC 0
    have C1 := cell_of_block hbC 1
    have C2 := cell_of_block hbC 2
    have C3 := cell_of_block hbC 3
    simp at C0 C1 C2 C3
    have lC := lt_of_block hbC
    clear hbC
    go_wp2
    go_ret
    exact ⟨rfl, HK.out.trans KK.out⟩
  go_wp2_with fail
  refine calls_world (fun W => W.heap[w104.heap.size]? = some (.cells #[.int .i64 x.1.stage, .string (bs x.1.user), .slice ta4 x.1.to.length tc4, .string (bs x.1.text)] 25 (0, 0)) ∧ Kept [] w104 W) ⟨new_block w104 _, (Kept.refl _ _).alloc _⟩ ?_
  rintro W5 ⟨hbn, hK⟩
  have HC := hid hbn
  clear hbn
  replace SC := hid (SC.out.kept0 hK)
  try clear A0 A1 A2 A3 lA
  try clear B0 B1 B2 B3 lB
  replace HA := hid (hK.same HA.out (by simp))
  replace SA := hid (SA.out.kept0 hK)
  replace HB := hid (hK.same HB.out (by simp))
  replace SB := hid (SB.out.kept0 hK)
  replace KK := hid (KK.out.trans hK)
  clear hK
  refine (sameSub_self 0 0 _ _ _ _ SB.out SC.out).mono ?_
  rintro e w106 ⟨rfl, hK⟩
  try clear A0 A1 A2 A3 lA
  try clear B0 B1 B2 B3 lB
  try clear C0 C1 C2 C3 lC
  replace HA := hid (hK.same HA.out (by simp))
  replace SA := hid (SA.out.kept0 hK)
  replace HB := hid (hK.same HB.out (by simp))
  replace SB := hid (SB.out.kept0 hK)
  replace HC := hid (hK.same HC.out (by simp))
  replace SC := hid (SC.out.kept0 hK)
  replace KK := hid (KK.out.trans hK)
  clear hK
  have hbA := HA.out
  have A0 := cell_of_block hbA 0
  have A1 := cell_of_block hbA 1
  have A2 := cell_of_block hbA 2
  have A3 := cell_of_block hbA 3
  simp at A0 A1 A2 A3
  have lA := lt_of_block hbA
  clear hbA
  have hbB := HB.out
  have B0 := cell_of_block hbB 0
  have B1 := cell_of_block hbB 1
  have B2 := cell_of_block hbB 2
  have B3 := cell_of_block hbB 3
  simp at B0 B1 B2 B3
  have lB := lt_of_block hbB
  clear hbB
  have hbC := HC.out
  have C0 := cell_of_block hbC 0
  have C1 := cell_of_block hbC 1
  have C2 := cell_of_block hbC 2
  have C3 := cell_of_block hbC 3
  simp at C0 C1 C2 C3
  have lC := lt_of_block hbC
  clear hbC
  go_wp2_with fail
  refine (open_any 0 _ s _ SA.out).mono ?_
  rintro e w107 ⟨rfl, hK⟩
  try clear A0 A1 A2 A3 lA
  try clear B0 B1 B2 B3 lB
  try clear C0 C1 C2 C3 lC
  replace HA := hid (hK.same HA.out (by simp))
  replace SA := hid (SA.out.kept0 hK)
  replace HB := hid (hK.same HB.out (by simp))
  replace SB := hid (SB.out.kept0 hK)
  replace HC := hid (hK.same HC.out (by simp))
  replace SC := hid (SC.out.kept0 hK)
  replace KK := hid (KK.out.trans hK)
  clear hK
  have hbA := HA.out
  have A0 := cell_of_block hbA 0
  have A1 := cell_of_block hbA 1
  have A2 := cell_of_block hbA 2
  have A3 := cell_of_block hbA 3
  simp at A0 A1 A2 A3
  have lA := lt_of_block hbA
  clear hbA
  have hbB := HB.out
  have B0 := cell_of_block hbB 0
  have B1 := cell_of_block hbB 1
  have B2 := cell_of_block hbB 2
  have B3 := cell_of_block hbB 3
  simp at B0 B1 B2 B3
  have lB := lt_of_block hbB
  clear hbB
  have hbC := HC.out
  have C0 := cell_of_block hbC 0
  have C1 := cell_of_block hbC 1
  have C2 := cell_of_block hbC 2
  have C3 := cell_of_block hbC 3
  simp at C0 C1 C2 C3
  have lC := lt_of_block hbC
  clear hbC
  cases ho : opn s with
  | false =>
    have HO := hid ho
    clear ho
    go_wp2_with fail
    refine (sameSub_self 0 0 _ _ _ _ SB.out SC.out).mono ?_
    rintro e w108 ⟨rfl, hK⟩
    try clear A0 A1 A2 A3 lA
    try clear B0 B1 B2 B3 lB
    try clear C0 C1 C2 C3 lC
    replace HA := hid (hK.same HA.out (by simp))
    replace SA := hid (SA.out.kept0 hK)
    replace HB := hid (hK.same HB.out (by simp))
    replace SB := hid (SB.out.kept0 hK)
    replace HC := hid (hK.same HC.out (by simp))
    replace SC := hid (SC.out.kept0 hK)
    replace KK := hid (KK.out.trans hK)
    clear hK
    have hbA := HA.out
    have A0 := cell_of_block hbA 0
    have A1 := cell_of_block hbA 1
    have A2 := cell_of_block hbA 2
    have A3 := cell_of_block hbA 3
    simp at A0 A1 A2 A3
    have lA := lt_of_block hbA
    clear hbA
    have hbB := HB.out
    have B0 := cell_of_block hbB 0
    have B1 := cell_of_block hbB 1
    have B2 := cell_of_block hbB 2
    have B3 := cell_of_block hbB 3
    simp at B0 B1 B2 B3
    have lB := lt_of_block hbB
    clear hbB
    have hbC := HC.out
    have C0 := cell_of_block hbC 0
    have C1 := cell_of_block hbC 1
    have C2 := cell_of_block hbC 2
    have C3 := cell_of_block hbC 3
    simp at C0 C1 C2 C3
    have lC := lt_of_block hbC
    clear hbC
    go_wp2
    go_ret
    exact ⟨rfl, HK.out.trans KK.out⟩
  | true =>
    have HO := hid ho
    have HV := hid (line_valid (s := s) (us := us) (d := d) (l := l) (by rw [HXX.out]; omega))
    clear ho HXX HI1 HSP
    go_wp2_with fail
    have hc := HI.out _ [78, 79, 79, 80] (by unfold bigN; decide) KK.out
    rw [line_of HV.out, ln_noop HO.out] at hc
    refine (hc).mono ?_
    rintro e w108 he
    obtain ⟨ta8, tc8, rfl, hs, hK⟩ := he.is
    clear he
    have SD := hid hs
    clear hs
    try clear A0 A1 A2 A3 lA
    try clear B0 B1 B2 B3 lB
    try clear C0 C1 C2 C3 lC
    replace HA := hid (hK.same HA.out (by simp))
    replace SA := hid (SA.out.kept0 hK)
    replace HB := hid (hK.same HB.out (by simp))
    replace SB := hid (SB.out.kept0 hK)
    replace HC := hid (hK.same HC.out (by simp))
    replace SC := hid (SC.out.kept0 hK)
    replace KK := hid (KK.out.trans hK)
    clear hK
    have hbA := HA.out
    have A0 := cell_of_block hbA 0
    have A1 := cell_of_block hbA 1
    have A2 := cell_of_block hbA 2
    have A3 := cell_of_block hbA 3
    simp at A0 A1 A2 A3
    have lA := lt_of_block hbA
    clear hbA
    have hbB := HB.out
    have B0 := cell_of_block hbB 0
    have B1 := cell_of_block hbB 1
    have B2 := cell_of_block hbB 2
    have B3 := cell_of_block hbB 3
    simp at B0 B1 B2 B3
    have lB := lt_of_block hbB
    clear hbB
    have hbC := HC.out
    have C0 := cell_of_block hbC 0
    have C1 := cell_of_block hbC 1
    have C2 := cell_of_block hbC 2
    have C3 := cell_of_block hbC 3
    simp at C0 C1 C2 C3
    have lC := lt_of_block hbC
    clear hbC
    clear hc
    go_wp2_with fail
    refine calls_world (fun W => W.heap[w108.heap.size]? = some (.cells #[.int .i64 s.stage, .string (bs s.user), .slice ta8 s.to.length tc8, .string (bs s.text)] 25 (0, 0)) ∧ Kept [] w108 W) ⟨new_block w108 _, (Kept.refl _ _).alloc _⟩ ?_
    rintro W9 ⟨hbn, hK⟩
    have HD := hid hbn
    clear hbn
    replace SD := hid (SD.out.kept0 hK)
    try clear A0 A1 A2 A3 lA
    try clear B0 B1 B2 B3 lB
    try clear C0 C1 C2 C3 lC
    replace HA := hid (hK.same HA.out (by simp))
    replace SA := hid (SA.out.kept0 hK)
    replace HB := hid (hK.same HB.out (by simp))
    replace SB := hid (SB.out.kept0 hK)
    replace HC := hid (hK.same HC.out (by simp))
    replace SC := hid (SC.out.kept0 hK)
    replace KK := hid (KK.out.trans hK)
    clear hK
    have hc := HI.out _ [88, 89, 90] (by unfold bigN; decide) KK.out
    rw [line_of HV.out, ln_what HO.out (.inl rfl)] at hc
    refine (hc).mono ?_
    rintro e w110 he
    obtain ⟨ta10, tc10, rfl, hs, hK⟩ := he.is
    clear he
    have SE := hid hs
    clear hs
    try clear A0 A1 A2 A3 lA
    try clear B0 B1 B2 B3 lB
    try clear C0 C1 C2 C3 lC
    try clear D0 D1 D2 D3 lD
    replace HA := hid (hK.same HA.out (by simp))
    replace SA := hid (SA.out.kept0 hK)
    replace HB := hid (hK.same HB.out (by simp))
    replace SB := hid (SB.out.kept0 hK)
    replace HC := hid (hK.same HC.out (by simp))
    replace SC := hid (SC.out.kept0 hK)
    replace HD := hid (hK.same HD.out (by simp))
    replace SD := hid (SD.out.kept0 hK)
    replace KK := hid (KK.out.trans hK)
    clear hK
    have hbA := HA.out
    have A0 := cell_of_block hbA 0
    have A1 := cell_of_block hbA 1
    have A2 := cell_of_block hbA 2
    have A3 := cell_of_block hbA 3
    simp at A0 A1 A2 A3
    have lA := lt_of_block hbA
    clear hbA
    have hbB := HB.out
    have B0 := cell_of_block hbB 0
    have B1 := cell_of_block hbB 1
    have B2 := cell_of_block hbB 2
    have B3 := cell_of_block hbB 3
    simp at B0 B1 B2 B3
    have lB := lt_of_block hbB
    clear hbB
    have hbC := HC.out
    have C0 := cell_of_block hbC 0
    have C1 := cell_of_block hbC 1
    have C2 := cell_of_block hbC 2
    have C3 := cell_of_block hbC 3
    simp at C0 C1 C2 C3
    have lC := lt_of_block hbC
    clear hbC
    have hbD := HD.out
    have D0 := cell_of_block hbD 0
    have D1 := cell_of_block hbD 1
    have D2 := cell_of_block hbD 2
    have D3 := cell_of_block hbD 3
    simp at D0 D1 D2 D3
    have lD := lt_of_block hbD
    clear hbD
    clear hc
    go_wp2_with fail
    refine calls_world (fun W => W.heap[w110.heap.size]? = some (.cells #[.int .i64 s.stage, .string (bs s.user), .slice ta10 s.to.length tc10, .string (bs s.text)] 25 (0, 0)) ∧ Kept [] w110 W) ⟨new_block w110 _, (Kept.refl _ _).alloc _⟩ ?_
    rintro W11 ⟨hbn, hK⟩
    have HE := hid hbn
    clear hbn
    replace SE := hid (SE.out.kept0 hK)
    try clear A0 A1 A2 A3 lA
    try clear B0 B1 B2 B3 lB
    try clear C0 C1 C2 C3 lC
    try clear D0 D1 D2 D3 lD
    replace HA := hid (hK.same HA.out (by simp))
    replace SA := hid (SA.out.kept0 hK)
    replace HB := hid (hK.same HB.out (by simp))
    replace SB := hid (SB.out.kept0 hK)
    replace HC := hid (hK.same HC.out (by simp))
    replace SC := hid (SC.out.kept0 hK)
    replace HD := hid (hK.same HD.out (by simp))
    replace SD := hid (SD.out.kept0 hK)
    replace KK := hid (KK.out.trans hK)
    clear hK
    have hc := HI.out _ [110, 111, 111, 112] (by unfold bigN; decide) KK.out
    rw [line_of HV.out, ln_what HO.out (.inr (.inl rfl))] at hc
    refine (hc).mono ?_
    rintro e w112 he
    obtain ⟨ta12, tc12, rfl, hs, hK⟩ := he.is
    clear he
    have SF := hid hs
    clear hs
    try clear A0 A1 A2 A3 lA
    try clear B0 B1 B2 B3 lB
    try clear C0 C1 C2 C3 lC
    try clear D0 D1 D2 D3 lD
    try clear E0 E1 E2 E3 lE
    replace HA := hid (hK.same HA.out (by simp))
    replace SA := hid (SA.out.kept0 hK)
    replace HB := hid (hK.same HB.out (by simp))
    replace SB := hid (SB.out.kept0 hK)
    replace HC := hid (hK.same HC.out (by simp))
    replace SC := hid (SC.out.kept0 hK)
    replace HD := hid (hK.same HD.out (by simp))
    replace SD := hid (SD.out.kept0 hK)
    replace HE := hid (hK.same HE.out (by simp))
    replace SE := hid (SE.out.kept0 hK)
    replace KK := hid (KK.out.trans hK)
    clear hK
    have hbA := HA.out
    have A0 := cell_of_block hbA 0
    have A1 := cell_of_block hbA 1
    have A2 := cell_of_block hbA 2
    have A3 := cell_of_block hbA 3
    simp at A0 A1 A2 A3
    have lA := lt_of_block hbA
    clear hbA
    have hbB := HB.out
    have B0 := cell_of_block hbB 0
    have B1 := cell_of_block hbB 1
    have B2 := cell_of_block hbB 2
    have B3 := cell_of_block hbB 3
    simp at B0 B1 B2 B3
    have lB := lt_of_block hbB
    clear hbB
    have hbC := HC.out
    have C0 := cell_of_block hbC 0
    have C1 := cell_of_block hbC 1
    have C2 := cell_of_block hbC 2
    have C3 := cell_of_block hbC 3
    simp at C0 C1 C2 C3
    have lC := lt_of_block hbC
    clear hbC
    have hbD := HD.out
    have D0 := cell_of_block hbD 0
    have D1 := cell_of_block hbD 1
    have D2 := cell_of_block hbD 2
    have D3 := cell_of_block hbD 3
    simp at D0 D1 D2 D3
    have lD := lt_of_block hbD
    clear hbD
    have hbE := HE.out
    have E0 := cell_of_block hbE 0
    have E1 := cell_of_block hbE 1
    have E2 := cell_of_block hbE 2
    have E3 := cell_of_block hbE 3
    simp at E0 E1 E2 E3
    have lE := lt_of_block hbE
    clear hbE
    clear hc
    go_wp2_with fail
    refine calls_world (fun W => W.heap[w112.heap.size]? = some (.cells #[.int .i64 s.stage, .string (bs s.user), .slice ta12 s.to.length tc12, .string (bs s.text)] 25 (0, 0)) ∧ Kept [] w112 W) ⟨new_block w112 _, (Kept.refl _ _).alloc _⟩ ?_
    rintro W13 ⟨hbn, hK⟩
    have HF := hid hbn
    clear hbn
    replace SF := hid (SF.out.kept0 hK)
    try clear A0 A1 A2 A3 lA
    try clear B0 B1 B2 B3 lB
    try clear C0 C1 C2 C3 lC
    try clear D0 D1 D2 D3 lD
    try clear E0 E1 E2 E3 lE
    replace HA := hid (hK.same HA.out (by simp))
    replace SA := hid (SA.out.kept0 hK)
    replace HB := hid (hK.same HB.out (by simp))
    replace SB := hid (SB.out.kept0 hK)
    replace HC := hid (hK.same HC.out (by simp))
    replace SC := hid (SC.out.kept0 hK)
    replace HD := hid (hK.same HD.out (by simp))
    replace SD := hid (SD.out.kept0 hK)
    replace HE := hid (hK.same HE.out (by simp))
    replace SE := hid (SE.out.kept0 hK)
    replace KK := hid (KK.out.trans hK)
    clear hK
    have hc := HI.out _ [] (by unfold bigN; decide) KK.out
    rw [line_of HV.out, ln_what HO.out (.inr (.inr rfl))] at hc
    refine (hc).mono ?_
    rintro e w114 he
    obtain ⟨ta14, tc14, rfl, hs, hK⟩ := he.is
    clear he
    have SG := hid hs
    clear hs
    try clear A0 A1 A2 A3 lA
    try clear B0 B1 B2 B3 lB
    try clear C0 C1 C2 C3 lC
    try clear D0 D1 D2 D3 lD
    try clear E0 E1 E2 E3 lE
    try clear F0 F1 F2 F3 lF
    replace HA := hid (hK.same HA.out (by simp))
    replace SA := hid (SA.out.kept0 hK)
    replace HB := hid (hK.same HB.out (by simp))
    replace SB := hid (SB.out.kept0 hK)
    replace HC := hid (hK.same HC.out (by simp))
    replace SC := hid (SC.out.kept0 hK)
    replace HD := hid (hK.same HD.out (by simp))
    replace SD := hid (SD.out.kept0 hK)
    replace HE := hid (hK.same HE.out (by simp))
    replace SE := hid (SE.out.kept0 hK)
    replace HF := hid (hK.same HF.out (by simp))
    replace SF := hid (SF.out.kept0 hK)
    replace KK := hid (KK.out.trans hK)
    clear hK
    have hbA := HA.out
    have A0 := cell_of_block hbA 0
    have A1 := cell_of_block hbA 1
    have A2 := cell_of_block hbA 2
    have A3 := cell_of_block hbA 3
    simp at A0 A1 A2 A3
    have lA := lt_of_block hbA
    clear hbA
    have hbB := HB.out
    have B0 := cell_of_block hbB 0
    have B1 := cell_of_block hbB 1
    have B2 := cell_of_block hbB 2
    have B3 := cell_of_block hbB 3
    simp at B0 B1 B2 B3
    have lB := lt_of_block hbB
    clear hbB
    have hbC := HC.out
    have C0 := cell_of_block hbC 0
    have C1 := cell_of_block hbC 1
    have C2 := cell_of_block hbC 2
    have C3 := cell_of_block hbC 3
    simp at C0 C1 C2 C3
    have lC := lt_of_block hbC
    clear hbC
    have hbD := HD.out
    have D0 := cell_of_block hbD 0
    have D1 := cell_of_block hbD 1
    have D2 := cell_of_block hbD 2
    have D3 := cell_of_block hbD 3
    simp at D0 D1 D2 D3
    have lD := lt_of_block hbD
    clear hbD
    have hbE := HE.out
    have E0 := cell_of_block hbE 0
    have E1 := cell_of_block hbE 1
    have E2 := cell_of_block hbE 2
    have E3 := cell_of_block hbE 3
    simp at E0 E1 E2 E3
    have lE := lt_of_block hbE
    clear hbE
    have hbF := HF.out
    have F0 := cell_of_block hbF 0
    have F1 := cell_of_block hbF 1
    have F2 := cell_of_block hbF 2
    have F3 := cell_of_block hbF 3
    simp at F0 F1 F2 F3
    have lF := lt_of_block hbF
    clear hbF
    clear hc
    go_wp2_with fail
    refine calls_world (fun W => W.heap[w114.heap.size]? = some (.cells #[.int .i64 s.stage, .string (bs s.user), .slice ta14 s.to.length tc14, .string (bs s.text)] 25 (0, 0)) ∧ Kept [] w114 W) ⟨new_block w114 _, (Kept.refl _ _).alloc _⟩ ?_
    rintro W15 ⟨hbn, hK⟩
    have HG := hid hbn
    clear hbn
    replace SG := hid (SG.out.kept0 hK)
    try clear A0 A1 A2 A3 lA
    try clear B0 B1 B2 B3 lB
    try clear C0 C1 C2 C3 lC
    try clear D0 D1 D2 D3 lD
    try clear E0 E1 E2 E3 lE
    try clear F0 F1 F2 F3 lF
    replace HA := hid (hK.same HA.out (by simp))
    replace SA := hid (SA.out.kept0 hK)
    replace HB := hid (hK.same HB.out (by simp))
    replace SB := hid (SB.out.kept0 hK)
    replace HC := hid (hK.same HC.out (by simp))
    replace SC := hid (SC.out.kept0 hK)
    replace HD := hid (hK.same HD.out (by simp))
    replace SD := hid (SD.out.kept0 hK)
    replace HE := hid (hK.same HE.out (by simp))
    replace SE := hid (SE.out.kept0 hK)
    replace HF := hid (hK.same HF.out (by simp))
    replace SF := hid (SF.out.kept0 hK)
    replace KK := hid (KK.out.trans hK)
    clear hK
    refine (sameSub_self 0 0 _ _ _ _ SD.out SA.out).mono ?_
    rintro e w116 ⟨rfl, hK⟩
    try clear A0 A1 A2 A3 lA
    try clear B0 B1 B2 B3 lB
    try clear C0 C1 C2 C3 lC
    try clear D0 D1 D2 D3 lD
    try clear E0 E1 E2 E3 lE
    try clear F0 F1 F2 F3 lF
    try clear G0 G1 G2 G3 lG
    replace HA := hid (hK.same HA.out (by simp))
    replace SA := hid (SA.out.kept0 hK)
    replace HB := hid (hK.same HB.out (by simp))
    replace SB := hid (SB.out.kept0 hK)
    replace HC := hid (hK.same HC.out (by simp))
    replace SC := hid (SC.out.kept0 hK)
    replace HD := hid (hK.same HD.out (by simp))
    replace SD := hid (SD.out.kept0 hK)
    replace HE := hid (hK.same HE.out (by simp))
    replace SE := hid (SE.out.kept0 hK)
    replace HF := hid (hK.same HF.out (by simp))
    replace SF := hid (SF.out.kept0 hK)
    replace HG := hid (hK.same HG.out (by simp))
    replace SG := hid (SG.out.kept0 hK)
    replace KK := hid (KK.out.trans hK)
    clear hK
    have hbA := HA.out
    have A0 := cell_of_block hbA 0
    have A1 := cell_of_block hbA 1
    have A2 := cell_of_block hbA 2
    have A3 := cell_of_block hbA 3
    simp at A0 A1 A2 A3
    have lA := lt_of_block hbA
    clear hbA
    have hbB := HB.out
    have B0 := cell_of_block hbB 0
    have B1 := cell_of_block hbB 1
    have B2 := cell_of_block hbB 2
    have B3 := cell_of_block hbB 3
    simp at B0 B1 B2 B3
    have lB := lt_of_block hbB
    clear hbB
    have hbC := HC.out
    have C0 := cell_of_block hbC 0
    have C1 := cell_of_block hbC 1
    have C2 := cell_of_block hbC 2
    have C3 := cell_of_block hbC 3
    simp at C0 C1 C2 C3
    have lC := lt_of_block hbC
    clear hbC
    have hbD := HD.out
    have D0 := cell_of_block hbD 0
    have D1 := cell_of_block hbD 1
    have D2 := cell_of_block hbD 2
    have D3 := cell_of_block hbD 3
    simp at D0 D1 D2 D3
    have lD := lt_of_block hbD
    clear hbD
    have hbE := HE.out
    have E0 := cell_of_block hbE 0
    have E1 := cell_of_block hbE 1
    have E2 := cell_of_block hbE 2
    have E3 := cell_of_block hbE 3
    simp at E0 E1 E2 E3
    have lE := lt_of_block hbE
    clear hbE
    have hbF := HF.out
    have F0 := cell_of_block hbF 0
    have F1 := cell_of_block hbF 1
    have F2 := cell_of_block hbF 2
    have F3 := cell_of_block hbF 3
    simp at F0 F1 F2 F3
    have lF := lt_of_block hbF
    clear hbF
    have hbG := HG.out
    have G0 := cell_of_block hbG 0
    have G1 := cell_of_block hbG 1
    have G2 := cell_of_block hbG 2
    have G3 := cell_of_block hbG 3
    simp at G0 G1 G2 G3
    have lG := lt_of_block hbG
    clear hbG
    go_wp2_with fail
    refine (sameSub_self 0 0 _ _ _ _ SE.out SA.out).mono ?_
    rintro e w117 ⟨rfl, hK⟩
    try clear A0 A1 A2 A3 lA
    try clear B0 B1 B2 B3 lB
    try clear C0 C1 C2 C3 lC
    try clear D0 D1 D2 D3 lD
    try clear E0 E1 E2 E3 lE
    try clear F0 F1 F2 F3 lF
    try clear G0 G1 G2 G3 lG
    replace HA := hid (hK.same HA.out (by simp))
    replace SA := hid (SA.out.kept0 hK)
    replace HB := hid (hK.same HB.out (by simp))
    replace SB := hid (SB.out.kept0 hK)
    replace HC := hid (hK.same HC.out (by simp))
    replace SC := hid (SC.out.kept0 hK)
    replace HD := hid (hK.same HD.out (by simp))
    replace SD := hid (SD.out.kept0 hK)
    replace HE := hid (hK.same HE.out (by simp))
    replace SE := hid (SE.out.kept0 hK)
    replace HF := hid (hK.same HF.out (by simp))
    replace SF := hid (SF.out.kept0 hK)
    replace HG := hid (hK.same HG.out (by simp))
    replace SG := hid (SG.out.kept0 hK)
    replace KK := hid (KK.out.trans hK)
    clear hK
    have hbA := HA.out
    have A0 := cell_of_block hbA 0
    have A1 := cell_of_block hbA 1
    have A2 := cell_of_block hbA 2
    have A3 := cell_of_block hbA 3
    simp at A0 A1 A2 A3
    have lA := lt_of_block hbA
    clear hbA
    have hbB := HB.out
    have B0 := cell_of_block hbB 0
    have B1 := cell_of_block hbB 1
    have B2 := cell_of_block hbB 2
    have B3 := cell_of_block hbB 3
    simp at B0 B1 B2 B3
    have lB := lt_of_block hbB
    clear hbB
    have hbC := HC.out
    have C0 := cell_of_block hbC 0
    have C1 := cell_of_block hbC 1
    have C2 := cell_of_block hbC 2
    have C3 := cell_of_block hbC 3
    simp at C0 C1 C2 C3
    have lC := lt_of_block hbC
    clear hbC
    have hbD := HD.out
    have D0 := cell_of_block hbD 0
    have D1 := cell_of_block hbD 1
    have D2 := cell_of_block hbD 2
    have D3 := cell_of_block hbD 3
    simp at D0 D1 D2 D3
    have lD := lt_of_block hbD
    clear hbD
    have hbE := HE.out
    have E0 := cell_of_block hbE 0
    have E1 := cell_of_block hbE 1
    have E2 := cell_of_block hbE 2
    have E3 := cell_of_block hbE 3
    simp at E0 E1 E2 E3
    have lE := lt_of_block hbE
    clear hbE
    have hbF := HF.out
    have F0 := cell_of_block hbF 0
    have F1 := cell_of_block hbF 1
    have F2 := cell_of_block hbF 2
    have F3 := cell_of_block hbF 3
    simp at F0 F1 F2 F3
    have lF := lt_of_block hbF
    clear hbF
    have hbG := HG.out
    have G0 := cell_of_block hbG 0
    have G1 := cell_of_block hbG 1
    have G2 := cell_of_block hbG 2
    have G3 := cell_of_block hbG 3
    simp at G0 G1 G2 G3
    have lG := lt_of_block hbG
    clear hbG
    go_wp2
    go_ret
    exact ⟨rfl, HK.out.trans KK.out⟩
end Go.Proofs.YtahiahboneljaaaGreatDoor
namespace Go.Proofs.YtahiahboneljaaaGreatDoor.fnNoop
open Go.ChangeShapes Go.WideShapes Go.ChangeAt Go.RowKit
set_option maxRecDepth 100000

theorem contract (H : Type) (enc : TypeId × Value → H) (W : World) (base : Nat) (args : Array Value) (ds gs : List (DataW H)) (before : List MemPlace)
    (hval : ∀ (j : Nat) t v, Tryz.f7.params[j]? = some t → args[j]? = some v → Value.okWide Tryz.prog W .any base t v)
    (hW : DataW.Whole enc Tryz.prog Tryz.f7.params.toList Rows.fnNoopSpec.vars false W args.toList ds gs before) (hsh : W.ShapedOpen Tryz.prog) :
    Calls Tryz.prog 7 args W fun e W' => ∃ v, e = .returned v ∧ Rows.fnNoopSpec.post enc Tryz.prog Tryz.f7 false true false false W args v W' :=
  contract1 7 Tryz.f7 Rows.fnNoopSpec Tryz.params7 rfl rfl (fun _ _ => rfl) wFnNoop H enc W base args ds gs before hval hW hsh
theorem laid_met (os : Os) : laidMet Tryz.prog Rows.fnNoopRow.laid ((laidWorld os).forCall (fun _ _ => 0) ⟨#[], #[.slice none 0 0], []⟩).memory :=
  laidMet_of_run' 8 (by kernel_rfl) (by kernel_rfl)
theorem reads (os : Os) {H : Type} (enc : TypeId × Value → H) : ∃ places, DataW.whole enc Tryz.prog ((laidWorld os).forCall (fun _ _ => 0) ⟨#[], #[.slice none 0 0], []⟩).memory Tryz.f7.params.toList Rows.fnNoopSpec.vars false (#[.slice none 0 0] : Array Value).toList 8 = some ([.nil], [], places) :=
  ⟨[], by kernel_rfl⟩
theorem lifted (os : Os) (started : os.Started) (H : Type) (enc : TypeId × Value → H) (F : Stop.Interp) :
    ReturnsInHanded {} Tryz.checked os 7 .any ((OpenSpec.ofChange Rows.fnNoopSpec).preRow enc Tryz.prog Tryz.f7 Rows.fnNoopRow.domain false Rows.fnNoopRow.laid) (((OpenSpec.ofChange Rows.fnNoopSpec).at F).post enc Tryz.prog Tryz.f7 false true false false) := by
  obtain ⟨places, hx⟩ := reads os enc
  refine returnsInHanded_of_row (C := Tryz.checked) (s := OpenSpec.ofChange Rows.fnNoopSpec) own started (by kernel_rfl) Tryz.func7
    (witness_row_at (enc := enc) (C := Tryz.checked) false (laidWorld os) #[.slice none 0 0] rfl (by kernel_rfl) (by kernel_rfl) (by kernel_rfl)
      (OpenSpec.preRow_of_cond 8 hx (by kernel_rfl) (fun k hk => by cases hk) (by kernel_rfl) (laid_met os))) ?_
  intro W base args ds gs before hval hW _ _ _ hL hsh _
  exact contract H enc W base args ds gs before hval hW hsh
theorem said : Rows.FnNoopSaid :=
  OpenClaim.holds_of_cond 7 Tryz.f7 rfl rfl rfl rfl rfl rfl rfl ⟨rfl, rfl, rfl, rfl, rfl⟩ rfl rfl rfl rfl rfl (by kernel_rfl) Tryz.func7 (by kernel_rfl)
    (of_decide_eq_true (by kernel_rfl)) (by unfold Func.isWrapper; first | (rw [if_pos (by decide +kernel)]; kernel_rfl) | (rw [if_neg (by decide +kernel)]; exact ⟨rfl, rfl⟩))
    (fun os started H enc _ F => by rw [OpenClaim.pre_eq_preRow]; exact lifted os started H enc F)
/-- No parameter wants a stand-in; the program's own looks are off. -/
theorem plain (f : FuncId) (fn : Func) (hf : Tryz.pinned.checked.prog.funcNamed "loop.example/mailhost/laws.FnNoop" = some f) (hfn : Tryz.pinned.checked.prog.funcs[f]? = some fn) :
    false = Tryz.pinned.checked.prog.looks [] ∧ ∀ (j : Nat) t, fn.params[j]? = some t → Tryz.pinned.checked.prog.wantsStandIn t = false := by
  obtain rfl : f = 7 := Option.some.inj ((show Tryz.prog.funcNamed "loop.example/mailhost/laws.FnNoop" = some 7 by kernel_rfl).symm.trans hf) |>.symm
  obtain rfl : fn = Tryz.f7 := (Option.some.inj (Tryz.func7.symm.trans hfn)).symm
  refine ⟨by kernel_rfl, fun j t ht => ?_⟩
  rw [Tryz.params7] at ht
  obtain rfl : t = 22 := by have := Array.mem_of_getElem? ht; simpa using this
  exact (show Tryz.prog.wantsStandIn 22 = false by kernel_rfl)
theorem card : Rows.FnNoopCardSaid :=
  Claim7.holds_tied_plain_at .later [] _ _ _ _ said (fun _ h => by cases h) (by kernel_rfl) (fun _ h => by cases h) fnNoop_row_tie rfl ⟨rfl, rfl⟩ (by kernel_rfl) rfl plain (by kernel_rfl)
end Go.Proofs.YtahiahboneljaaaGreatDoor.fnNoop
#print axioms Go.Proofs.YtahiahboneljaaaGreatDoor.fnNoop.card
