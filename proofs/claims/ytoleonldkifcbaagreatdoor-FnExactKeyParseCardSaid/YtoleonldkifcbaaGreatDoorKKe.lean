/- The walks of keys: validity and texts (spec). -/
import Derived.Test.YtoleonldkifcbaaGreatDoorKKd
namespace Go.Proofs.YtoleonldkifcbaaGreatDoor
open Go.RowKit

set_option maxHeartbeats 1000000 in
theorem l12Flag_any (n : Int) (w : World) : Calls Tryz.prog 82 #[.int .i64 n] w fun e w' => e = .returned (.bool (isFl n)) ∧ Kept [] w w' := by
  by_cases h1 : n = 1
  · subst h1
    have HF : Hid (isFl 1 = true) := rfl
    go_enter Tryz.func82, Tryz.ntmps82
    go_wp2
    go_ret
    exact ⟨ret_bool (by rw [HF.out]), by first | exact Kept.refl _ _ | exact (Kept.refl _ _).alloc _⟩
  · have g1 : (n == 1) = false := by simpa using h1
    by_cases h2 : n = 2
    · subst h2
      have HF : Hid (isFl 2 = true) := rfl
      go_enter Tryz.func82, Tryz.ntmps82
      go_wp2
      go_ret
      exact ⟨ret_bool (by rw [HF.out]), by first | exact Kept.refl _ _ | exact (Kept.refl _ _).alloc _⟩
    · have g2 : (n == 2) = false := by simpa using h2
      by_cases h4 : n = 4
      · subst h4
        have HF : Hid (isFl 4 = true) := rfl
        go_enter Tryz.func82, Tryz.ntmps82
        go_wp2
        go_ret
        exact ⟨ret_bool (by rw [HF.out]), by first | exact Kept.refl _ _ | exact (Kept.refl _ _).alloc _⟩
      · have g4 : (n == 4) = false := by simpa using h4
        by_cases h8 : n = 8
        · subst h8
          have HF : Hid (isFl 8 = true) := rfl
          go_enter Tryz.func82, Tryz.ntmps82
          go_wp2
          go_ret
          exact ⟨ret_bool (by rw [HF.out]), by first | exact Kept.refl _ _ | exact (Kept.refl _ _).alloc _⟩
        · have g8 : (n == 8) = false := by simpa using h8
          by_cases h16 : n = 16
          · subst h16
            have HF : Hid (isFl 16 = true) := rfl
            go_enter Tryz.func82, Tryz.ntmps82
            go_wp2
            go_ret
            exact ⟨ret_bool (by rw [HF.out]), by first | exact Kept.refl _ _ | exact (Kept.refl _ _).alloc _⟩
          · have g16 : (n == 16) = false := by simpa using h16
            have HF : Hid (isFl n = false) := by show _ = _; unfold isFl; simp; omega
            skip
            go_enter Tryz.func82, Tryz.ntmps82
            go_wp2
            go_ret
            exact ⟨ret_bool (by rw [HF.out]), by first | exact Kept.refl _ _ | exact (Kept.refl _ _).alloc _⟩

theorem l12Word_any (s : List UInt8) (w : World) (hs : s.length ≤ bigN) : Calls Tryz.prog 72 #[.string (bs s)] w fun e w' => e = .returned (.bool (isName s)) ∧ Kept [] w w' := by
  have H := hid (fun W => by have := sNameValid_any (bs s) W (by rw [bs_size]; exact Nat.le_trans hs bigN_le); rw [bs_toList] at this; exact this)
  go_enter Tryz.func72, Tryz.ntmps72
  go_wp2_with fail
  refine (H.out _).mono ?_
  rintro e w1 ⟨rfl, rfl⟩
  go_wp2
  go_ret
  exact ⟨ret_bool rfl, Kept.refl _ _⟩

/-- The number of a flag. -/
def bitN (k : Nat) : Int := if k = 0 then 1 else if k = 1 then 2 else if k = 2 then 4 else if k = 3 then 8 else 16
theorem l4Bit_any (k : Nat) (hk : k < 5) (w : World) : Calls Tryz.prog 42 #[.int .i64 k] w fun e w' => e = .returned (.int .i64 (bitN k)) ∧ Kept [] w w' := by
  obtain rfl | rfl | rfl | rfl | rfl : k = 0 ∨ k = 1 ∨ k = 2 ∨ k = 3 ∨ k = 4 := by omega
  all_goals
    go_enter Tryz.func42, Tryz.ntmps42
    go_wp2
    go_ret
    exact ⟨rfl, (Kept.refl _ _).alloc _⟩

set_option maxRecDepth 100000 in
set_option maxHeartbeats 4000000 in
theorem l12Node_any (lo : Nat) (k : Ky) (sv kv : Value) (w : World) (h : KeyIn lo w k sv kv) :
    Calls Tryz.prog 61 #[.agg #[.int .i64 k.kind, .int .i64 k.flag, .string (bs k.text), sv, kv]] w fun e w' => e = .returned (.bool (nodeOk k.kind k.flag k.text k.set k.keys.length)) ∧ Kept [] w w' := by
  obtain ⟨hcl, hsp, a', cap, bb, off, rfl, hn, -, -, -⟩ := h.parts
  have HSP := hid hsp
  obtain ⟨a, sc, b, o2, rfl, hl, -, -, -⟩ := hsp
  have HV := hid (fun W (hW : Kept [] w W) => sSetValid_any lo _ k.set W (HSP.out.kept0 hW))
  have HW := hid (fun W => l12Word_any k.text W hcl)
  have HFL := hid (fun W => l12Flag_any k.flag W)
  have HCL := hid hcl
  have HNL := hid hn
  have hl63 : k.set.length ≤ 2 ^ 63 - 1 := by have := Nat.le_trans hl bigN_le; unfold maxLen at this; exact this
  have hn63 : k.keys.length ≤ 2 ^ 63 - 1 := by have := Nat.le_trans hn bigN_le; unfold maxLen at this; exact this
  have KA := hid ((Kept.refl [] w).alloc (Obj.cells #[.int .i64 k.kind, .int .i64 k.flag, .string (bs k.text), .slice a k.set.length sc, .slice a' k.keys.length cap] 26))
  have HZ := hid (new_block w (Obj.cells #[.int .i64 k.kind, .int .i64 k.flag, .string (bs k.text), .slice a k.set.length sc, .slice a' k.keys.length cap] 26))
  clear h hcl hl hn HSP
  generalize k.kind = kind at *
  generalize k.flag = flag at *
  generalize k.text = text at *
  generalize k.set = set at *
  generalize k.keys.length = n at *
  by_cases e0 : kind = 0
  · subst e0
    by_cases hf1 : flag = 0
    · subst hf1
      by_cases hf2 : text.length = 0
      · have q2 : ((bs text).toList == []) = true := by rw [empty_bs', decide_eq_true_eq]; exact hf2
        by_cases hf3 : set.length = 0
        · have q3 : ¬ 0 < set.length := by omega
          by_cases hn : n = 0
          · have q4 : ((n : Int) == 0) = true := by subst hn; rfl
            have HR : Hid (nodeOk 0 0 text set n = true) := by show _ = _; unfold nodeOk fieldsOk kindOk; simp [hf2, hf3, hn]
            clear hf2 hf3 HV HW HFL hn
            go_enter Tryz.func61, Tryz.ntmps61
            go_wp2
            go_ret
            exact ⟨ret_bool (by rw [HR.out]), KA.out⟩
          · have q4 : ((n : Int) == 0) = false := by simp; omega
            have HR : Hid (nodeOk 0 0 text set n = false) := by show _ = _; unfold nodeOk fieldsOk kindOk; simp [hf2, hf3, hn]
            clear hf2 hf3 HV HW HFL hn
            go_enter Tryz.func61, Tryz.ntmps61
            go_wp2
            go_ret
            exact ⟨ret_bool (by rw [HR.out]), KA.out⟩
        · have q3 : 0 < set.length := by omega
          have HR : Hid (nodeOk 0 0 text set n = false) := by show _ = _; unfold nodeOk fieldsOk; simp [hf3]
          clear hf3 HV HW HFL
          go_enter Tryz.func61, Tryz.ntmps61
          go_wp2
          go_ret
          exact ⟨ret_bool (by rw [HR.out]), KA.out⟩
      · have q2 : ((bs text).toList == []) = false := by rw [empty_bs', decide_eq_false_iff_not]; exact hf2
        have HR : Hid (nodeOk 0 0 text set n = false) := by show _ = _; unfold nodeOk fieldsOk; simp [hf2]
        clear hf2 HV HW HFL
        go_enter Tryz.func61, Tryz.ntmps61
        go_wp2
        go_ret
        exact ⟨ret_bool (by rw [HR.out]), KA.out⟩
    · have q1 : (flag == 0) = false := by simpa using hf1
      have HR : Hid (nodeOk 0 flag text set n = false) := by show _ = _; unfold nodeOk fieldsOk; simp [hf1]
      clear HV HW HFL
      go_enter Tryz.func61, Tryz.ntmps61
      go_wp2
      go_ret
      exact ⟨ret_bool (by rw [HR.out]), KA.out⟩
  have g0 : (kind == 0) = false := by simpa using e0
  by_cases e1 : kind = 1
  · subst e1
    by_cases hf2 : text.length = 0
    · have q2 : ((bs text).toList == []) = true := by rw [empty_bs', decide_eq_true_eq]; exact hf2
      by_cases hf3 : set.length = 0
      · have q3 : ¬ 0 < set.length := by omega
        by_cases hv : isFl flag = true
        · by_cases hn : n = 0
          · have q4 : ((n : Int) == 0) = true := by subst hn; rfl
            have HR : Hid (nodeOk 1 flag text set n = true) := by show _ = _; unfold nodeOk fieldsOk kindOk; simp [hf2, hf3, hn, hv]
            have HVV := hid hv
            clear hf2 hf3 hn hv
            go_enter Tryz.func61, Tryz.ntmps61
            go_wp2_with fail
            refine (HFL.out _).mono ?_
            rintro e w1 ⟨rfl, hK⟩
            rw [HVV.out]
            have HK1 := hid (KA.out.trans hK)
            have hz := hK.same HZ.out (by simp)
            have z4 := cell_of_block hz 4
            simp at z4
            clear hz hK
            go_wp2
            go_ret
            exact ⟨ret_bool (by rw [HR.out]), HK1.out⟩
          · have q4 : ((n : Int) == 0) = false := by simp; omega
            have HR : Hid (nodeOk 1 flag text set n = false) := by show _ = _; unfold nodeOk fieldsOk kindOk; simp [hf2, hf3, hn, hv]
            have HVV := hid hv
            clear hf2 hf3 hn hv
            go_enter Tryz.func61, Tryz.ntmps61
            go_wp2_with fail
            refine (HFL.out _).mono ?_
            rintro e w1 ⟨rfl, hK⟩
            rw [HVV.out]
            have HK1 := hid (KA.out.trans hK)
            have hz := hK.same HZ.out (by simp)
            have z4 := cell_of_block hz 4
            simp at z4
            clear hz hK
            go_wp2
            go_ret
            exact ⟨ret_bool (by rw [HR.out]), HK1.out⟩
        · have hv : isFl flag = false := by simpa using hv
          have HR : Hid (nodeOk 1 flag text set n = false) := by show _ = _; unfold nodeOk fieldsOk kindOk; simp [hf2, hf3, hv]
          have HVV := hid hv
          clear hf2 hf3 hv
          go_enter Tryz.func61, Tryz.ntmps61
          go_wp2_with fail
          refine (HFL.out _).mono ?_
          rintro e w1 ⟨rfl, hK⟩
          rw [HVV.out]
          have HK1 := hid (KA.out.trans hK)
          have hz := hK.same HZ.out (by simp)
          have z4 := cell_of_block hz 4
          simp at z4
          clear hz hK
          go_wp2
          go_ret
          exact ⟨ret_bool (by rw [HR.out]), HK1.out⟩
      · have q3 : 0 < set.length := by omega
        have HR : Hid (nodeOk 1 flag text set n = false) := by show _ = _; unfold nodeOk fieldsOk; simp [hf3]
        clear hf3 HV HW HFL
        go_enter Tryz.func61, Tryz.ntmps61
        go_wp2
        go_ret
        exact ⟨ret_bool (by rw [HR.out]), KA.out⟩
    · have q2 : ((bs text).toList == []) = false := by rw [empty_bs', decide_eq_false_iff_not]; exact hf2
      have HR : Hid (nodeOk 1 flag text set n = false) := by show _ = _; unfold nodeOk fieldsOk; simp [hf2]
      clear hf2 HV HW HFL
      go_enter Tryz.func61, Tryz.ntmps61
      go_wp2
      go_ret
      exact ⟨ret_bool (by rw [HR.out]), KA.out⟩
  have g1 : (kind == 1) = false := by simpa using e1
  by_cases e2 : kind = 2
  · subst e2
    by_cases hf1 : flag = 0
    · subst hf1
      by_cases hf3 : set.length = 0
      · have q3 : ¬ 0 < set.length := by omega
        by_cases hv : isName text = true
        · by_cases hn : n = 0
          · have q4 : ((n : Int) == 0) = true := by subst hn; rfl
            have HR : Hid (nodeOk 2 0 text set n = true) := by show _ = _; unfold nodeOk fieldsOk kindOk; simp [hf3, hn, hv]
            have HVV := hid hv
            clear hf3 hn hv
            go_enter Tryz.func61, Tryz.ntmps61
            go_wp2_with fail
            refine (HW.out _).mono ?_
            rintro e w1 ⟨rfl, hK⟩
            rw [HVV.out]
            have HK1 := hid (KA.out.trans hK)
            have hz := hK.same HZ.out (by simp)
            have z4 := cell_of_block hz 4
            simp at z4
            clear hz hK
            go_wp2
            go_ret
            exact ⟨ret_bool (by rw [HR.out]), HK1.out⟩
          · have q4 : ((n : Int) == 0) = false := by simp; omega
            have HR : Hid (nodeOk 2 0 text set n = false) := by show _ = _; unfold nodeOk fieldsOk kindOk; simp [hf3, hn, hv]
            have HVV := hid hv
            clear hf3 hn hv
            go_enter Tryz.func61, Tryz.ntmps61
            go_wp2_with fail
            refine (HW.out _).mono ?_
            rintro e w1 ⟨rfl, hK⟩
            rw [HVV.out]
            have HK1 := hid (KA.out.trans hK)
            have hz := hK.same HZ.out (by simp)
            have z4 := cell_of_block hz 4
            simp at z4
            clear hz hK
            go_wp2
            go_ret
            exact ⟨ret_bool (by rw [HR.out]), HK1.out⟩
        · have hv : isName text = false := by simpa using hv
          have HR : Hid (nodeOk 2 0 text set n = false) := by show _ = _; unfold nodeOk fieldsOk kindOk; simp [hf3, hv]
          have HVV := hid hv
          clear hf3 hv
          go_enter Tryz.func61, Tryz.ntmps61
          go_wp2_with fail
          refine (HW.out _).mono ?_
          rintro e w1 ⟨rfl, hK⟩
          rw [HVV.out]
          have HK1 := hid (KA.out.trans hK)
          have hz := hK.same HZ.out (by simp)
          have z4 := cell_of_block hz 4
          simp at z4
          clear hz hK
          go_wp2
          go_ret
          exact ⟨ret_bool (by rw [HR.out]), HK1.out⟩
      · have q3 : 0 < set.length := by omega
        have HR : Hid (nodeOk 2 0 text set n = false) := by show _ = _; unfold nodeOk fieldsOk; simp [hf3]
        clear hf3 HV HW HFL
        go_enter Tryz.func61, Tryz.ntmps61
        go_wp2
        go_ret
        exact ⟨ret_bool (by rw [HR.out]), KA.out⟩
    · have q1 : (flag == 0) = false := by simpa using hf1
      have HR : Hid (nodeOk 2 flag text set n = false) := by show _ = _; unfold nodeOk fieldsOk; simp [hf1]
      clear HV HW HFL
      go_enter Tryz.func61, Tryz.ntmps61
      go_wp2
      go_ret
      exact ⟨ret_bool (by rw [HR.out]), KA.out⟩
  have g2 : (kind == 2) = false := by simpa using e2
  by_cases e3 : kind = 3
  · subst e3
    by_cases hf1 : flag = 0
    · subst hf1
      by_cases hf2 : text.length = 0
      · have q2 : ((bs text).toList == []) = true := by rw [empty_bs', decide_eq_true_eq]; exact hf2
        by_cases hv : setOk set = true
        · by_cases hn : n = 0
          · have q4 : ((n : Int) == 0) = true := by subst hn; rfl
            have HR : Hid (nodeOk 3 0 text set n = true) := by show _ = _; unfold nodeOk fieldsOk kindOk; simp [hf2, hn, hv]
            have HVV := hid hv
            clear hf2 hn hv
            go_enter Tryz.func61, Tryz.ntmps61
            go_wp2_with fail
            refine (HV.out _ KA.out).mono ?_
            rintro e w1 ⟨rfl, rfl⟩
            rw [HVV.out]
            go_wp2
            go_ret
            exact ⟨ret_bool (by rw [HR.out]), KA.out⟩
          · have q4 : ((n : Int) == 0) = false := by simp; omega
            have HR : Hid (nodeOk 3 0 text set n = false) := by show _ = _; unfold nodeOk fieldsOk kindOk; simp [hf2, hn, hv]
            have HVV := hid hv
            clear hf2 hn hv
            go_enter Tryz.func61, Tryz.ntmps61
            go_wp2_with fail
            refine (HV.out _ KA.out).mono ?_
            rintro e w1 ⟨rfl, rfl⟩
            rw [HVV.out]
            go_wp2
            go_ret
            exact ⟨ret_bool (by rw [HR.out]), KA.out⟩
        · have hv : setOk set = false := by simpa using hv
          have HR : Hid (nodeOk 3 0 text set n = false) := by show _ = _; unfold nodeOk fieldsOk kindOk; simp [hf2, hv]
          have HVV := hid hv
          clear hf2 hv
          go_enter Tryz.func61, Tryz.ntmps61
          go_wp2_with fail
          refine (HV.out _ KA.out).mono ?_
          rintro e w1 ⟨rfl, rfl⟩
          rw [HVV.out]
          go_wp2
          go_ret
          exact ⟨ret_bool (by rw [HR.out]), KA.out⟩
      · have q2 : ((bs text).toList == []) = false := by rw [empty_bs', decide_eq_false_iff_not]; exact hf2
        have HR : Hid (nodeOk 3 0 text set n = false) := by show _ = _; unfold nodeOk fieldsOk; simp [hf2]
        clear hf2 HV HW HFL
        go_enter Tryz.func61, Tryz.ntmps61
        go_wp2
        go_ret
        exact ⟨ret_bool (by rw [HR.out]), KA.out⟩
    · have q1 : (flag == 0) = false := by simpa using hf1
      have HR : Hid (nodeOk 3 flag text set n = false) := by show _ = _; unfold nodeOk fieldsOk; simp [hf1]
      clear HV HW HFL
      go_enter Tryz.func61, Tryz.ntmps61
      go_wp2
      go_ret
      exact ⟨ret_bool (by rw [HR.out]), KA.out⟩
  have g3 : (kind == 3) = false := by simpa using e3
  by_cases e4 : kind = 4
  · subst e4
    by_cases hf1 : flag = 0
    · subst hf1
      by_cases hf2 : text.length = 0
      · have q2 : ((bs text).toList == []) = true := by rw [empty_bs', decide_eq_true_eq]; exact hf2
        by_cases hv : setOk set = true
        · by_cases hn : n = 0
          · have q4 : ((n : Int) == 0) = true := by subst hn; rfl
            have HR : Hid (nodeOk 4 0 text set n = true) := by show _ = _; unfold nodeOk fieldsOk kindOk; simp [hf2, hn, hv]
            have HVV := hid hv
            clear hf2 hn hv
            go_enter Tryz.func61, Tryz.ntmps61
            go_wp2_with fail
            refine (HV.out _ KA.out).mono ?_
            rintro e w1 ⟨rfl, rfl⟩
            rw [HVV.out]
            go_wp2
            go_ret
            exact ⟨ret_bool (by rw [HR.out]), KA.out⟩
          · have q4 : ((n : Int) == 0) = false := by simp; omega
            have HR : Hid (nodeOk 4 0 text set n = false) := by show _ = _; unfold nodeOk fieldsOk kindOk; simp [hf2, hn, hv]
            have HVV := hid hv
            clear hf2 hn hv
            go_enter Tryz.func61, Tryz.ntmps61
            go_wp2_with fail
            refine (HV.out _ KA.out).mono ?_
            rintro e w1 ⟨rfl, rfl⟩
            rw [HVV.out]
            go_wp2
            go_ret
            exact ⟨ret_bool (by rw [HR.out]), KA.out⟩
        · have hv : setOk set = false := by simpa using hv
          have HR : Hid (nodeOk 4 0 text set n = false) := by show _ = _; unfold nodeOk fieldsOk kindOk; simp [hf2, hv]
          have HVV := hid hv
          clear hf2 hv
          go_enter Tryz.func61, Tryz.ntmps61
          go_wp2_with fail
          refine (HV.out _ KA.out).mono ?_
          rintro e w1 ⟨rfl, rfl⟩
          rw [HVV.out]
          go_wp2
          go_ret
          exact ⟨ret_bool (by rw [HR.out]), KA.out⟩
      · have q2 : ((bs text).toList == []) = false := by rw [empty_bs', decide_eq_false_iff_not]; exact hf2
        have HR : Hid (nodeOk 4 0 text set n = false) := by show _ = _; unfold nodeOk fieldsOk; simp [hf2]
        clear hf2 HV HW HFL
        go_enter Tryz.func61, Tryz.ntmps61
        go_wp2
        go_ret
        exact ⟨ret_bool (by rw [HR.out]), KA.out⟩
    · have q1 : (flag == 0) = false := by simpa using hf1
      have HR : Hid (nodeOk 4 flag text set n = false) := by show _ = _; unfold nodeOk fieldsOk; simp [hf1]
      clear HV HW HFL
      go_enter Tryz.func61, Tryz.ntmps61
      go_wp2
      go_ret
      exact ⟨ret_bool (by rw [HR.out]), KA.out⟩
  have g4 : (kind == 4) = false := by simpa using e4
  by_cases e5 : kind = 5
  · subst e5
    by_cases hf1 : flag = 0
    · subst hf1
      by_cases hf2 : text.length = 0
      · have q2 : ((bs text).toList == []) = true := by rw [empty_bs', decide_eq_true_eq]; exact hf2
        by_cases hf3 : set.length = 0
        · have q3 : ¬ 0 < set.length := by omega
          by_cases hn : n = 1
          · have q4 : ((n : Int) == 1) = true := by subst hn; rfl
            have HR : Hid (nodeOk 5 0 text set n = true) := by show _ = _; unfold nodeOk fieldsOk kindOk; simp [hf2, hf3, hn]
            clear hf2 hf3 HV HW HFL hn
            go_enter Tryz.func61, Tryz.ntmps61
            go_wp2
            go_ret
            exact ⟨ret_bool (by rw [HR.out]), KA.out⟩
          · have q4 : ((n : Int) == 1) = false := by simp; omega
            have HR : Hid (nodeOk 5 0 text set n = false) := by show _ = _; unfold nodeOk fieldsOk kindOk; simp [hf2, hf3, hn]
            clear hf2 hf3 HV HW HFL hn
            go_enter Tryz.func61, Tryz.ntmps61
            go_wp2
            go_ret
            exact ⟨ret_bool (by rw [HR.out]), KA.out⟩
        · have q3 : 0 < set.length := by omega
          have HR : Hid (nodeOk 5 0 text set n = false) := by show _ = _; unfold nodeOk fieldsOk; simp [hf3]
          clear hf3 HV HW HFL
          go_enter Tryz.func61, Tryz.ntmps61
          go_wp2
          go_ret
          exact ⟨ret_bool (by rw [HR.out]), KA.out⟩
      · have q2 : ((bs text).toList == []) = false := by rw [empty_bs', decide_eq_false_iff_not]; exact hf2
        have HR : Hid (nodeOk 5 0 text set n = false) := by show _ = _; unfold nodeOk fieldsOk; simp [hf2]
        clear hf2 HV HW HFL
        go_enter Tryz.func61, Tryz.ntmps61
        go_wp2
        go_ret
        exact ⟨ret_bool (by rw [HR.out]), KA.out⟩
    · have q1 : (flag == 0) = false := by simpa using hf1
      have HR : Hid (nodeOk 5 flag text set n = false) := by show _ = _; unfold nodeOk fieldsOk; simp [hf1]
      clear HV HW HFL
      go_enter Tryz.func61, Tryz.ntmps61
      go_wp2
      go_ret
      exact ⟨ret_bool (by rw [HR.out]), KA.out⟩
  have g5 : (kind == 5) = false := by simpa using e5
  by_cases e6 : kind = 6
  · subst e6
    by_cases hf1 : flag = 0
    · subst hf1
      by_cases hf2 : text.length = 0
      · have q2 : ((bs text).toList == []) = true := by rw [empty_bs', decide_eq_true_eq]; exact hf2
        by_cases hf3 : set.length = 0
        · have q3 : ¬ 0 < set.length := by omega
          by_cases hn : n = 2
          · have q4 : ((n : Int) == 2) = true := by subst hn; rfl
            have HR : Hid (nodeOk 6 0 text set n = true) := by show _ = _; unfold nodeOk fieldsOk kindOk; simp [hf2, hf3, hn]
            clear hf2 hf3 HV HW HFL hn
            go_enter Tryz.func61, Tryz.ntmps61
            go_wp2
            go_ret
            exact ⟨ret_bool (by rw [HR.out]), KA.out⟩
          · have q4 : ((n : Int) == 2) = false := by simp; omega
            have HR : Hid (nodeOk 6 0 text set n = false) := by show _ = _; unfold nodeOk fieldsOk kindOk; simp [hf2, hf3, hn]
            clear hf2 hf3 HV HW HFL hn
            go_enter Tryz.func61, Tryz.ntmps61
            go_wp2
            go_ret
            exact ⟨ret_bool (by rw [HR.out]), KA.out⟩
        · have q3 : 0 < set.length := by omega
          have HR : Hid (nodeOk 6 0 text set n = false) := by show _ = _; unfold nodeOk fieldsOk; simp [hf3]
          clear hf3 HV HW HFL
          go_enter Tryz.func61, Tryz.ntmps61
          go_wp2
          go_ret
          exact ⟨ret_bool (by rw [HR.out]), KA.out⟩
      · have q2 : ((bs text).toList == []) = false := by rw [empty_bs', decide_eq_false_iff_not]; exact hf2
        have HR : Hid (nodeOk 6 0 text set n = false) := by show _ = _; unfold nodeOk fieldsOk; simp [hf2]
        clear hf2 HV HW HFL
        go_enter Tryz.func61, Tryz.ntmps61
        go_wp2
        go_ret
        exact ⟨ret_bool (by rw [HR.out]), KA.out⟩
    · have q1 : (flag == 0) = false := by simpa using hf1
      have HR : Hid (nodeOk 6 flag text set n = false) := by show _ = _; unfold nodeOk fieldsOk; simp [hf1]
      clear HV HW HFL
      go_enter Tryz.func61, Tryz.ntmps61
      go_wp2
      go_ret
      exact ⟨ret_bool (by rw [HR.out]), KA.out⟩
  have g6 : (kind == 6) = false := by simpa using e6
  by_cases e7 : kind = 7
  · subst e7
    by_cases hf1 : flag = 0
    · subst hf1
      by_cases hf2 : text.length = 0
      · have q2 : ((bs text).toList == []) = true := by rw [empty_bs', decide_eq_true_eq]; exact hf2
        by_cases hf3 : set.length = 0
        · have q3 : ¬ 0 < set.length := by omega
          by_cases hn : n = 2
          · have q4 : ((n : Int) == 2) = true := by subst hn; rfl
            have HR : Hid (nodeOk 7 0 text set n = true) := by show _ = _; unfold nodeOk fieldsOk kindOk; simp [hf2, hf3, hn]
            clear hf2 hf3 HV HW HFL hn
            go_enter Tryz.func61, Tryz.ntmps61
            go_wp2
            go_ret
            exact ⟨ret_bool (by rw [HR.out]), KA.out⟩
          · have q4 : ((n : Int) == 2) = false := by simp; omega
            have HR : Hid (nodeOk 7 0 text set n = false) := by show _ = _; unfold nodeOk fieldsOk kindOk; simp [hf2, hf3, hn]
            clear hf2 hf3 HV HW HFL hn
            go_enter Tryz.func61, Tryz.ntmps61
            go_wp2
            go_ret
            exact ⟨ret_bool (by rw [HR.out]), KA.out⟩
        · have q3 : 0 < set.length := by omega
          have HR : Hid (nodeOk 7 0 text set n = false) := by show _ = _; unfold nodeOk fieldsOk; simp [hf3]
          clear hf3 HV HW HFL
          go_enter Tryz.func61, Tryz.ntmps61
          go_wp2
          go_ret
          exact ⟨ret_bool (by rw [HR.out]), KA.out⟩
      · have q2 : ((bs text).toList == []) = false := by rw [empty_bs', decide_eq_false_iff_not]; exact hf2
        have HR : Hid (nodeOk 7 0 text set n = false) := by show _ = _; unfold nodeOk fieldsOk; simp [hf2]
        clear hf2 HV HW HFL
        go_enter Tryz.func61, Tryz.ntmps61
        go_wp2
        go_ret
        exact ⟨ret_bool (by rw [HR.out]), KA.out⟩
    · have q1 : (flag == 0) = false := by simpa using hf1
      have HR : Hid (nodeOk 7 flag text set n = false) := by show _ = _; unfold nodeOk fieldsOk; simp [hf1]
      clear HV HW HFL
      go_enter Tryz.func61, Tryz.ntmps61
      go_wp2
      go_ret
      exact ⟨ret_bool (by rw [HR.out]), KA.out⟩
  have g7 : (kind == 7) = false := by simpa using e7
  have b1 : (kind != 1) = true := by simpa using e1
  have b2 : (kind != 2) = true := by simpa using e2
  have b3 : (kind != 3) = true := by simpa using e3
  have b4 : (kind != 4) = true := by simpa using e4
  by_cases hf1 : flag = 0
  · subst hf1
    by_cases hf2 : text.length = 0
    · have q2 : ((bs text).toList == []) = true := by rw [empty_bs', decide_eq_true_eq]; exact hf2
      by_cases hf3 : set.length = 0
      · have q3 : ¬ 0 < set.length := by omega
        have HR : Hid (nodeOk kind 0 text set n = false) := by show _ = _; unfold nodeOk kindOk; simp [e0, e1, e2, e3, e4, e5, e6, e7]
        clear hf2 hf3
        clear HV HW HFL
        go_enter Tryz.func61, Tryz.ntmps61
        go_wp2
        go_ret
        exact ⟨ret_bool (by rw [HR.out]), KA.out⟩
      · have q3 : 0 < set.length := by omega
        have HR : Hid (nodeOk kind 0 text set n = false) := by show _ = _; unfold nodeOk fieldsOk; simp [hf3, e1, e2, e3, e4]
        clear hf3 HV HW HFL
        go_enter Tryz.func61, Tryz.ntmps61
        go_wp2
        go_ret
        exact ⟨ret_bool (by rw [HR.out]), KA.out⟩
    · have q2 : ((bs text).toList == []) = false := by rw [empty_bs', decide_eq_false_iff_not]; exact hf2
      have HR : Hid (nodeOk kind 0 text set n = false) := by show _ = _; unfold nodeOk fieldsOk; simp [hf2, e1, e2, e3, e4]
      clear hf2 HV HW HFL
      go_enter Tryz.func61, Tryz.ntmps61
      go_wp2
      go_ret
      exact ⟨ret_bool (by rw [HR.out]), KA.out⟩
  · have q1 : (flag == 0) = false := by simpa using hf1
    have HR : Hid (nodeOk kind flag text set n = false) := by show _ = _; unfold nodeOk fieldsOk; simp [hf1, e1, e2, e3, e4]
    clear HV HW HFL
    go_enter Tryz.func61, Tryz.ntmps61
    go_wp2
    go_ret
    exact ⟨ret_bool (by rw [HR.out]), KA.out⟩
end Go.Proofs.YtoleonldkifcbaaGreatDoor
namespace Go.Proofs.YtoleonldkifcbaaGreatDoor
open Go.RowKit

theorem allL_iff (ks : List Ky) : allL ks = true ↔ ∀ x ∈ ks, allK x = true := by
  induction ks with
  | nil => simp [allL]
  | cons k ks ih => simp [allL, ih]
theorem nodesL_mem {k : Ky} {ks : List Ky} (h : k ∈ ks) : nodesK k ≤ nodesL ks := by
  induction ks with
  | nil => simp at h
  | cons x ks ih =>
    unfold nodesL
    rcases List.mem_cons.1 h with rfl | h
    · omega
    · have := ih h; omega
theorem nodesL_take (ks : List Ky) (j : Nat) (h : j < ks.length) : nodesL (ks.take (j + 1)) = nodesL (ks.take j) + nodesK ks[j] := by
  induction ks generalizing j with
  | nil => simp at h
  | cons k ks ih =>
    cases j with
    | zero => simp [nodesL]
    | succ j =>
      simp only [List.take_succ_cons, nodesL, List.getElem_cons_succ]
      rw [ih j (by simpa using h)]; omega
theorem nodesL_take_le (ks : List Ky) (j : Nat) : nodesL (ks.take j) ≤ nodesL ks := by
  induction ks generalizing j with
  | nil => simp
  | cons k ks ih =>
    cases j with
    | zero => simp [nodesL]
    | succ j => simp only [List.take_succ_cons, nodesL]; have := ih j; omega

/-- All nodes of small keys are checked. -/
def AllGoes (lo n : Nat) : Prop := ∀ (k : Ky) (sv kv : Value) (w : World), nodesK k < n → KeyIn lo w k sv kv →
  Calls Tryz.prog 40 #[.agg #[.int .i64 k.kind, .int .i64 k.flag, .string (bs k.text), sv, kv]] w fun e w' => e = .returned (.bool (allK k)) ∧ Kept [] w w'

set_option maxRecDepth 100000 in
set_option maxHeartbeats 4000000 in
theorem all_step (lo n : Nat) (ih : AllGoes lo n) : AllGoes lo (n + 1) := by
  intro k sv kv w hnk h
  obtain ⟨a, b, c, d, ks⟩ := k
  have HH := hid h
  obtain ⟨hcl, hsp, a4, cap, b4, off, hkv, hl1, hl2, hba, hks⟩ := h.parts
  have hkv : kv = .slice a4 ks.length cap := hkv
  subst hkv
  obtain ⟨sa, scap, rfl⟩ := hsp.form
  simp only [Ky.keys, Ky.text, Ky.set, Ky.kind, Ky.flag] at hcl hsp hl1 hl2 hba hks ⊢
  have HKS := hid hks
  have HBA := hid hba
  have hn63 : ks.length ≤ 2 ^ 63 - 1 := by have := Nat.le_trans hl1 bigN_le; unfold maxLen at this; exact this
  have HNK : Hid (∀ x ∈ ks, nodesK x < n) := fun x hx => by have := nodesL_mem hx; unfold nodesK at hnk; omega
  have HA : Hid (allK (.mk a b c d ks) = (allL ks && nodeOk a b c d ks.length)) := by show _ = _; unfold allK; rfl
  rw [HA.out]
  have KA := hid ((Kept.refl [] w).alloc (Obj.cells #[.int .i64 a, .int .i64 b, .string (bs c), .slice sa d.length scap, .slice a4 ks.length cap] 26))
  have HZ := hid (new_block w (Obj.cells #[.int .i64 a, .int .i64 b, .string (bs c), .slice sa d.length scap, .slice a4 ks.length cap] 26))
  have HIH := hid ih
  clear h hsp hks hba hcl hnk ih HA
  go_enter Tryz.func40, Tryz.ntmps40
  go_wp2
  go_loopg [3] ks.length (fun m i W => ∃ j : Nat, m = ks.length - j ∧ j ≤ ks.length ∧ i = .int .i64 j ∧ Kept [] (w.alloc (.cells #[.int .i64 a, .int .i64 b, .string (bs c), .slice sa d.length scap, .slice a4 ks.length cap] 26)) W ∧ ∀ x ∈ ks.take j, allK x = true)
  case atStart => exact ⟨0, rfl, Nat.zero_le _, rfl, Kept.refl _ _, by simp⟩
  case round =>
    obtain ⟨j, hm, hj, rfl, hK, hall⟩ := hrel
    have HM := hid hm
    have HALL := hid hall
    have HK := hid (KA.out.trans hK)
    have hz := hK.same HZ.out (by simp)
    have z0 := cell_of_block hz 0
    have z1 := cell_of_block hz 1
    have z2 := cell_of_block hz 2
    have z3 := cell_of_block hz 3
    have z4 := cell_of_block hz 4
    have hzl := lt_of_block hz
    simp at z0 z1 z2 z3 z4
    have HKW := hid hK
    clear hm hK hall hz
    by_cases hlt : j < ks.length
    · obtain ⟨rfl, -, hbw⟩ := HBA.out (by omega)
      obtain ⟨sv1, kv1, c0, c1, c2, c3, c4, hk1⟩ := KeysIn.get b4 off ks HKS.out j hlt
      have c0 := HK.out.cell_some c0 (by simp)
      have c1 := HK.out.cell_some c1 (by simp)
      have c2 := HK.out.cell_some c2 (by simp)
      have c3 := HK.out.cell_some c3 (by simp)
      have c4 := HK.out.cell_some c4 (by simp)
      have hk1 := KeyIn.kept HK.out (by simp) _ _ _ hk1
      have HC := hid (HIH.out ks[j] sv1 kv1 _ (HNK.out _ (List.getElem_mem _)) hk1)
      have i1 : (j : Int) < ks.length := by omega
      have i4 : j < cap := by omega
      clear hk1
      obtain ⟨v, hv⟩ : ∃ v, allK ks[j] = v := ⟨_, rfl⟩
      have HV := hid hv
      rw [hv] at HC
      clear hv
      generalize ks[j].kind = kk at *
      generalize ks[j].flag = kf at *
      generalize ks[j].text = kt at *
      go_wp2_with fail
      refine HC.out.mono ?_
      rintro e w1 ⟨rfl, hK1⟩
      have HK1 := hid (HKW.out.trans hK1)
      have HK1W := hid (HK.out.trans hK1)
      clear hK1
      cases v with
      | true =>
        go_wp2
        go_roundg (ks.length - (j + 1))
        case measure => rw [HM.out]; omega
        case rel =>
          refine ⟨j + 1, rfl, by omega, by go_num, HK1.out, ?_⟩
          rw [List.take_succ_eq_append_getElem hlt]
          intro x hx
          rcases List.mem_append.1 hx with hx | hx
          · exact HALL.out x hx
          · obtain rfl := List.mem_singleton.1 hx; exact HV.out
      | false =>
        go_wp2
        go_ret
        refine ⟨ret_bool ?_, HK1W.out⟩
        have : allL ks = false := by
          cases hq : allL ks with
          | false => rfl
          | true => have := (allL_iff ks).1 hq _ (List.getElem_mem hlt); rw [HV.out] at this; cases this
        rw [this]; rfl
    · obtain rfl : j = ks.length := by omega
      have HAL : Hid (allL ks = true) := by show _ = _; rw [allL_iff]; intro x hx; exact HALL.out x (by rw [List.take_length]; exact hx)
      have HC := hid (l12Node_any lo (.mk a b c d ks) (.slice sa d.length scap) (.slice a4 ks.length cap) _ (KeyIn.kept HK.out (by simp) _ _ _ HH.out))
      simp only [Ky.keys, Ky.text, Ky.set, Ky.kind, Ky.flag] at HC
      go_wp2_with fail
      refine HC.out.mono ?_
      rintro e w1 ⟨rfl, hK1⟩
      have HK1W := hid (HK.out.trans hK1)
      clear hK1
      go_wp2
      go_ret
      exact ⟨ret_bool (by rw [HAL.out]; rfl), HK1W.out⟩
theorem all_goes (lo : Nat) : ∀ n, AllGoes lo n
  | 0 => fun _ _ _ _ h => absurd h (Nat.not_lt_zero _)
  | n + 1 => all_step lo n (all_goes lo n)
theorem l12All_any (lo : Nat) (k : Ky) (sv kv : Value) (w : World) (h : KeyIn lo w k sv kv) :
    Calls Tryz.prog 40 #[.agg #[.int .i64 k.kind, .int .i64 k.flag, .string (bs k.text), sv, kv]] w fun e w' => e = .returned (.bool (allK k)) ∧ Kept [] w w' :=
  all_goes lo (nodesK k + 1) k sv kv w (Nat.lt_succ_self _) h
end Go.Proofs.YtoleonldkifcbaaGreatDoor
namespace Go.Proofs.YtoleonldkifcbaaGreatDoor
open Go.RowKit

/-- The nodes of small keys are counted. -/
def NodesGo (lo n : Nat) : Prop := ∀ (k : Ky) (sv kv : Value) (w : World), nodesK k < n → nodesK k ≤ bigN → KeyIn lo w k sv kv →
  Calls Tryz.prog 41 #[.agg #[.int .i64 k.kind, .int .i64 k.flag, .string (bs k.text), sv, kv]] w fun e w' => e = .returned (.int .i64 (nodesK k : Nat)) ∧ Kept [] w w'

set_option maxRecDepth 100000 in
set_option maxHeartbeats 4000000 in
theorem nodes_step (lo n : Nat) (ih : NodesGo lo n) : NodesGo lo (n + 1) := by
  intro k sv kv w hnk hbig h
  obtain ⟨a, b, c, d, ks⟩ := k
  obtain ⟨hcl, hsp, a4, cap, b4, off, hkv, hl1, hl2, hba, hks⟩ := h.parts
  have hkv : kv = .slice a4 ks.length cap := hkv
  subst hkv
  obtain ⟨sa, scap, rfl⟩ := hsp.form
  simp only [Ky.keys, Ky.text, Ky.set, Ky.kind, Ky.flag] at hcl hsp hl1 hl2 hba hks ⊢
  have HKS := hid hks
  have HBA := hid hba
  have hn63 : ks.length ≤ 2 ^ 63 - 1 := by have := Nat.le_trans hl1 bigN_le; unfold maxLen at this; exact this
  have HA : Hid (nodesK (.mk a b c d ks) = 1 + nodesL ks) := by show _ = _; unfold nodesK; rfl
  have HBIG := hid (by rw [HA.out] at hbig; exact hbig)
  have HNK : Hid (∀ x ∈ ks, nodesK x < n ∧ nodesK x ≤ bigN) := fun x hx => by have := nodesL_mem hx; rw [HA.out] at hnk; have := HBIG.out; omega
  rw [HA.out]
  have KA := hid ((Kept.refl [] w).alloc (Obj.cells #[.int .i64 a, .int .i64 b, .string (bs c), .slice sa d.length scap, .slice a4 ks.length cap] 26))
  have HZ := hid (new_block w (Obj.cells #[.int .i64 a, .int .i64 b, .string (bs c), .slice sa d.length scap, .slice a4 ks.length cap] 26))
  have HIH := hid ih
  clear h hsp hks hba hcl hnk hbig ih HA
  go_enter Tryz.func41, Tryz.ntmps41
  go_wp2
  go_loopg [3, 4] ks.length (fun m s i W => ∃ (j t : Nat), m = ks.length - j ∧ j ≤ ks.length ∧ i = .int .i64 j ∧ s = .int .i64 t ∧ t = 1 + nodesL (ks.take j) ∧ Kept [] (w.alloc (.cells #[.int .i64 a, .int .i64 b, .string (bs c), .slice sa d.length scap, .slice a4 ks.length cap] 26)) W)
  case atStart => exact ⟨0, 1, rfl, Nat.zero_le _, rfl, rfl, rfl, Kept.refl _ _⟩
  case round =>
    obtain ⟨j, t, hm, hj, rfl, rfl, ht, hK⟩ := hrel
    have HM := hid hm
    have HT := hid ht
    have HK := hid (KA.out.trans hK)
    have hz := hK.same HZ.out (by simp)
    have z0 := cell_of_block hz 0
    have z1 := cell_of_block hz 1
    have z2 := cell_of_block hz 2
    have z3 := cell_of_block hz 3
    have z4 := cell_of_block hz 4
    have hzl := lt_of_block hz
    simp at z0 z1 z2 z3 z4
    have HKW := hid hK
    clear hm hK ht hz
    by_cases hlt : j < ks.length
    · obtain ⟨rfl, -, hbw⟩ := HBA.out (by omega)
      obtain ⟨sv1, kv1, c0, c1, c2, c3, c4, hk1⟩ := KeysIn.get b4 off ks HKS.out j hlt
      have c0 := HK.out.cell_some c0 (by simp)
      have c1 := HK.out.cell_some c1 (by simp)
      have c2 := HK.out.cell_some c2 (by simp)
      have c3 := HK.out.cell_some c3 (by simp)
      have c4 := HK.out.cell_some c4 (by simp)
      have hk1 := KeyIn.kept HK.out (by simp) _ _ _ hk1
      have HC := hid (HIH.out ks[j] sv1 kv1 _ (HNK.out _ (List.getElem_mem _)).1 (HNK.out _ (List.getElem_mem _)).2 hk1)
      have i1 : (j : Int) < ks.length := by omega
      have i4 : j < cap := by omega
      clear hk1
      obtain ⟨v, hv⟩ : ∃ v, nodesK ks[j] = v := ⟨_, rfl⟩
      have hs1 : t + v ≤ 1 + nodesL ks := by
        have h1 := nodesL_take ks j hlt
        have h2 := nodesL_take_le ks (j + 1)
        rw [HT.out, ← hv]; omega
      have hs2 : (t : Int) + v ≤ 9223372036854775807 := by have := Nat.le_trans HBIG.out bigN_le; unfold maxLen at this; omega
      have HV := hid hv
      rw [hv] at HC
      clear hv
      generalize ks[j].kind = kk at *
      generalize ks[j].flag = kf at *
      generalize ks[j].text = kt at *
      go_wp2_with fail
      refine HC.out.mono ?_
      rintro e w1 ⟨rfl, hK1⟩
      have HK1 := hid (HKW.out.trans hK1)
      clear hK1 hs1
      go_wp2
      go_roundg (ks.length - (j + 1))
      case measure => rw [HM.out]; omega
      case rel =>
        refine ⟨j + 1, t + v, rfl, by omega, by go_num, by go_num, ?_, HK1.out⟩
        have h1 := nodesL_take ks j hlt
        rw [HT.out, ← HV.out]; omega
    · obtain rfl : j = ks.length := by omega
      have HTT : Hid (t = 1 + nodesL ks) := by show _ = _; rw [HT.out, List.take_length]
      go_wp2
      go_ret
      exact ⟨by rw [HTT.out]; rfl, HK.out⟩
theorem nodes_go (lo : Nat) : ∀ n, NodesGo lo n
  | 0 => fun _ _ _ _ h => absurd h (Nat.not_lt_zero _)
  | n + 1 => nodes_step lo n (nodes_go lo n)
theorem l12Nodes_any (lo : Nat) (k : Ky) (sv kv : Value) (w : World) (hn : nodesK k ≤ bigN) (h : KeyIn lo w k sv kv) :
    Calls Tryz.prog 41 #[.agg #[.int .i64 k.kind, .int .i64 k.flag, .string (bs k.text), sv, kv]] w fun e w' => e = .returned (.int .i64 (nodesK k : Nat)) ∧ Kept [] w w' :=
  nodes_go lo (nodesK k + 1) k sv kv w (Nat.lt_succ_self _) hn h

set_option maxRecDepth 100000 in
set_option maxHeartbeats 4000000 in
theorem sKeyValid_any (lo : Nat) (k : Ky) (sv kv : Value) (w : World) (hn : nodesK k ≤ bigN) (h : KeyIn lo w k sv kv) :
    Calls Tryz.prog 21 #[.agg #[.int .i64 k.kind, .int .i64 k.flag, .string (bs k.text), sv, kv]] w fun e w' => e = .returned (.bool (validK k)) ∧ Kept [] w w' := by
  have KA := hid ((Kept.refl [] w).alloc (Obj.cells #[.int .i64 k.kind, .int .i64 k.flag, .string (bs k.text), sv, kv] 26))
  have HZ := hid (new_block w (Obj.cells #[.int .i64 k.kind, .int .i64 k.flag, .string (bs k.text), sv, kv] 26))
  have HA := hid (fun W (hW : Kept [] w W) => l12All_any lo k sv kv W (KeyIn.kept hW (by simp) _ _ _ h))
  have HB := hid (fun W (hW : Kept [] w W) => l12Nodes_any lo k sv kv W hn (KeyIn.kept hW (by simp) _ _ _ h))
  obtain ⟨hcl, hsp, a4, cap, b4, off, rfl, -, -, -, -⟩ := h.parts
  obtain ⟨sa, scap, rfl⟩ := hsp.form
  have HVD : Hid (validK k = (allK k && decide (nodesK k ≤ 9))) := rfl
  have hnn : (nodesK k : Int) ≤ 9223372036854775807 := by have := Nat.le_trans hn bigN_le; unfold maxLen at this; omega
  rw [HVD.out]
  clear h hsp hn hcl HVD
  generalize nodesK k = nn at *
  generalize allK k = av at *
  generalize k.kind = kk at *
  generalize k.flag = kf at *
  generalize k.text = kt at *
  generalize k.set.length = sl at *
  generalize k.keys.length = kl at *
  go_enter Tryz.func21, Tryz.ntmps21
  go_wp2_with fail
  refine (HA.out _ KA.out).mono ?_
  rintro e w1 ⟨rfl, hK1⟩
  have hz := hK1.same HZ.out (by simp)
  have z0 := cell_of_block hz 0
  have z1 := cell_of_block hz 1
  have z2 := cell_of_block hz 2
  have z3 := cell_of_block hz 3
  have z4 := cell_of_block hz 4
  have hzl := lt_of_block hz
  simp at z0 z1 z2 z3 z4
  have HK1 := hid (KA.out.trans hK1)
  clear hK1 hz
  cases av with
  | false =>
    go_wp2
    go_ret
    exact ⟨ret_bool rfl, HK1.out⟩
  | true =>
    go_wp2_with fail
    refine (HB.out _ HK1.out).mono ?_
    rintro e w2 ⟨rfl, hK2⟩
    have HK2 := hid (HK1.out.trans hK2)
    clear hK2
    by_cases h9 : nn ≤ 9
    · have h9i : (nn : Int) ≤ 9 := by omega
      go_wp2
      go_ret
      exact ⟨ret_bool (by simp <;> omega), HK2.out⟩
    · have h9i : ¬ (nn : Int) ≤ 9 := by omega
      go_wp2
      go_ret
      exact ⟨ret_bool (by simp <;> omega), HK2.out⟩
end Go.Proofs.YtoleonldkifcbaaGreatDoor
namespace Go.Proofs.YtoleonldkifcbaaGreatDoor
open Go.RowKit

theorem fmtL_take (ks : List Ky) (j : Nat) (h : j < ks.length) : fmtL (ks.take (j + 1)) = fmtL (ks.take j) ++ 32 :: fmtK ks[j] := by
  induction ks generalizing j with
  | nil => simp at h
  | cons k ks ih =>
    cases j with
    | zero => simp [fmtL]
    | succ j =>
      simp only [List.take_succ_cons, fmtL, List.getElem_cons_succ]
      rw [ih j (by simpa using h)]; simp
theorem fmtL_take_len (ks : List Ky) (j : Nat) : (fmtL (ks.take j)).length ≤ (fmtL ks).length := by
  induction ks generalizing j with
  | nil => simp
  | cons k ks ih =>
    cases j with
    | zero => simp [fmtL]
    | succ j => simp only [List.take_succ_cons, fmtL]; have := ih j; simp; omega

/-- The texts of small valid keys. -/
def FmtGoes (lo n : Nat) : Prop := ∀ (k : Ky) (sv kv : Value) (w : World), nodesK k < n → allK k = true → nodesK k ≤ 9 → KeyIn lo w k sv kv →
  Calls Tryz.prog 22 #[.agg #[.int .i64 k.kind, .int .i64 k.flag, .string (bs k.text), sv, kv]] w fun e w' => e = .returned (.string (bs (fmtK k))) ∧ Kept [] w w'
/-- The text of a key with such a flag. -/
def HasGoes (lo n : Nat) : Prop := ∀ (k : Ky) (sv kv : Value) (w : World), k.kind = 1 → nodesK k < n → allK k = true → nodesK k ≤ 9 → KeyIn lo w k sv kv →
  Calls Tryz.prog 22 #[.agg #[.int .i64 k.kind, .int .i64 k.flag, .string (bs k.text), sv, kv]] w fun e w' => e = .returned (.string (bs (fmtK k))) ∧ Kept [] w w'

set_option maxRecDepth 100000 in
set_option maxHeartbeats 8000000 in
theorem fmt_step (lo n : Nat) (ih : FmtGoes lo n) (hhas : HasGoes lo (n + 1)) : FmtGoes lo (n + 1) := by
  intro k sv kv w hnk hav hnine h
  by_cases hk1 : k.kind = 1
  · exact hhas k sv kv w hk1 hnk hav hnine h
  obtain ⟨a, b, c, d, ks⟩ := k
  have hlen := (wordsK_ok _ hav).2.2.2.2
  obtain ⟨hcl, hsp, a4, cap, b4, off, hkv, hl1, hl2, hba, hks⟩ := h.parts
  have hkv : kv = .slice a4 ks.length cap := hkv
  subst hkv
  have HSX := hid (fun W (hW : Kept [] w W) => sSetText_any lo sv d W (hsp.kept0 hW))
  obtain ⟨sa, scap, rfl⟩ := hsp.form
  simp only [Ky.keys, Ky.text, Ky.set, Ky.kind, Ky.flag] at hk1 hcl hsp hl1 hl2 hba hks HSX ⊢
  have HKS := hid hks
  have HBA := hid hba
  have hn63 : ks.length ≤ 2 ^ 63 - 1 := by have := Nat.le_trans hl1 bigN_le; unfold maxLen at this; exact this
  have hav2 : allL ks = true ∧ nodeOk a b c d ks.length = true := by unfold allK at hav; simpa using hav
  have HNK : Hid (∀ x ∈ ks, nodesK x < n ∧ allK x = true ∧ nodesK x ≤ 9) := fun x hx => by
    have h1 := nodesL_mem hx
    unfold nodesK at hnk hnine
    exact ⟨by omega, (allL_iff ks).1 hav2.1 x hx, by omega⟩
  have HLEN : Hid ((headT a b c d).length + (fmtL ks).length ≤ 450) := by
    show _ ≤ _
    unfold fmtK at hlen; simp at hlen; omega
  have hnk2 := nodeOk_kinds hav2.2
  have KA := hid ((Kept.refl [] w).alloc (Obj.cells #[.int .i64 a, .int .i64 b, .string (bs c), .slice sa d.length scap, .slice a4 ks.length cap] 26))
  have HZ := hid (new_block w (Obj.cells #[.int .i64 a, .int .i64 b, .string (bs c), .slice sa d.length scap, .slice a4 ks.length cap] 26))
  have HIH := hid ih
  clear h hsp hks hba hnk ih hhas hlen hav hav2 hnine
  clear hcl
  rcases hnk2 with h | h | h | h | h | h
  · obtain ⟨rfl, -⟩ := h
    have HHD : Hid (headT 0 b c d = tAll) := rfl
    rw [HHD.out] at HLEN
    go_enter Tryz.func22, Tryz.ntmps22
    go_wp2
    go_loopg [3, 6] ks.length (fun m out i W => ∃ (j : Nat) (t : List UInt8), m = ks.length - j ∧ j ≤ ks.length ∧ i = .int .i64 j ∧ out = .string (bs t) ∧ t = tAll ++ fmtL (ks.take j) ∧ Kept [] w W ∧ W.heap[w.heap.size]? = some (.cells #[.int .i64 0, .int .i64 b, .string (bs c), .slice sa d.length scap, .slice a4 ks.length cap] 26 (0, 0)))
    case atStart => exact ⟨0, tAll, rfl, Nat.zero_le _, rfl, rfl, by simp [fmtL], KA.out, HZ.out⟩
    case round =>
      obtain ⟨j, t, hm, hj, rfl, rfl, ht, hK, hz⟩ := hrel
      have HM := hid hm
      have HT := hid ht
      have HK := hid hK
      have HZW := hid hz
      have z0 := cell_of_block hz 0
      have z1 := cell_of_block hz 1
      have z2 := cell_of_block hz 2
      have z3 := cell_of_block hz 3
      have z4 := cell_of_block hz 4
      have hzl := lt_of_block hz
      simp at z0 z1 z2 z3 z4
      clear hm ht hK hz
      by_cases hlt : j < ks.length
      · obtain ⟨rfl, -, hbw⟩ := HBA.out (by omega)
        obtain ⟨sv1, kv1, c0, c1, c2, c3, c4, hk1⟩ := KeysIn.get b4 off ks HKS.out j hlt
        have c0 := HK.out.cell_some c0 (by simp)
        have c1 := HK.out.cell_some c1 (by simp)
        have c2 := HK.out.cell_some c2 (by simp)
        have c3 := HK.out.cell_some c3 (by simp)
        have c4 := HK.out.cell_some c4 (by simp)
        have HC := hid (fun W (hW : Kept [] w W) => HIH.out ks[j] sv1 kv1 W (HNK.out _ (List.getElem_mem _)).1 (HNK.out _ (List.getElem_mem _)).2.1 (HNK.out _ (List.getElem_mem _)).2.2 (KeyIn.kept hW (by simp) _ _ _ hk1))
        have i1 : (j : Int) < ks.length := by omega
        have i4 : j < cap := by omega
        clear hk1
        obtain ⟨v, hv⟩ : ∃ v, fmtK ks[j] = v := ⟨_, rfl⟩
        have HSTEP := hid (fmtL_take ks j hlt)
        have hlen : t.length + 1 + v.length ≤ 500 := by
          have h1 := congrArg List.length HSTEP.out
          have h2 := fmtL_take_len ks (j + 1)
          have h3 := HLEN.out
          have h4 := congrArg List.length HT.out
          rw [hv] at h1
          simp at h1 h4 h3
          omega
        have HV := hid hv
        rw [hv] at HC
        have s1 : t.length + 1 ≤ 9223372036854775807 := by omega
        have s2 : t.length + 1 + v.length ≤ 9223372036854775807 := by omega
        have s3 : (t.length : Int) + 1 + v.length ≤ 9223372036854775807 := by omega
        clear hv hlen
        generalize ks[j].kind = kk at *
        generalize ks[j].flag = kf at *
        generalize ks[j].text = kt at *
        go_wp2_with fail
        refine (HC.out _ HK.out).mono ?_
        rintro e w1 ⟨rfl, hK1⟩
        have HK1 := hid (HK.out.trans hK1)
        have HZ1 := hid (hK1.same HZW.out (by simp))
        clear hK1
        go_wp2
        go_roundg (ks.length - (j + 1))
        case measure => rw [HM.out]; omega
        case rel => exact ⟨j + 1, t ++ 32 :: v, rfl, by omega, by go_num, by simp only [add_bs, add_c, List.append_assoc, List.cons_append, List.nil_append], by rw [HSTEP.out, HT.out, HV.out, List.append_assoc], HK1.out, HZ1.out⟩
      · obtain rfl : j = ks.length := by omega
        have HR : Hid (t = fmtK (.mk 0 b c d ks)) := by show _ = _; unfold fmtK; rw [HT.out, List.take_length, HHD.out]
        go_wp2
        go_ret
        exact ⟨ret_str (by rw [HR.out]), HK.out⟩
  · exact absurd h.1 hk1
  · obtain ⟨rfl, -⟩ := h
    have HHD : Hid (headT 2 b c d = tText ++ 32 :: c) := rfl
    rw [HHD.out] at HLEN
    have s0 : 5 + c.length ≤ 9223372036854775807 := by have := HLEN.out; simp at this; omega
    go_enter Tryz.func22, Tryz.ntmps22
    go_wp2
    go_loopg [3, 6] ks.length (fun m out i W => ∃ (j : Nat) (t : List UInt8), m = ks.length - j ∧ j ≤ ks.length ∧ i = .int .i64 j ∧ out = .string (bs t) ∧ t = (tText ++ 32 :: c) ++ fmtL (ks.take j) ∧ Kept [] w W ∧ W.heap[w.heap.size]? = some (.cells #[.int .i64 2, .int .i64 b, .string (bs c), .slice sa d.length scap, .slice a4 ks.length cap] 26 (0, 0)))
    case atStart => exact ⟨0, (tText ++ 32 :: c), rfl, Nat.zero_le _, rfl, (by rw [show (tText ++ 32 :: c) = (tText ++ [32]) ++ c by simp, ← add_bs]; rfl), by simp [fmtL], KA.out, HZ.out⟩
    case round =>
      obtain ⟨j, t, hm, hj, rfl, rfl, ht, hK, hz⟩ := hrel
      have HM := hid hm
      have HT := hid ht
      have HK := hid hK
      have HZW := hid hz
      have z0 := cell_of_block hz 0
      have z1 := cell_of_block hz 1
      have z2 := cell_of_block hz 2
      have z3 := cell_of_block hz 3
      have z4 := cell_of_block hz 4
      have hzl := lt_of_block hz
      simp at z0 z1 z2 z3 z4
      clear hm ht hK hz
      by_cases hlt : j < ks.length
      · obtain ⟨rfl, -, hbw⟩ := HBA.out (by omega)
        obtain ⟨sv1, kv1, c0, c1, c2, c3, c4, hk1⟩ := KeysIn.get b4 off ks HKS.out j hlt
        have c0 := HK.out.cell_some c0 (by simp)
        have c1 := HK.out.cell_some c1 (by simp)
        have c2 := HK.out.cell_some c2 (by simp)
        have c3 := HK.out.cell_some c3 (by simp)
        have c4 := HK.out.cell_some c4 (by simp)
        have HC := hid (fun W (hW : Kept [] w W) => HIH.out ks[j] sv1 kv1 W (HNK.out _ (List.getElem_mem _)).1 (HNK.out _ (List.getElem_mem _)).2.1 (HNK.out _ (List.getElem_mem _)).2.2 (KeyIn.kept hW (by simp) _ _ _ hk1))
        have i1 : (j : Int) < ks.length := by omega
        have i4 : j < cap := by omega
        clear hk1
        obtain ⟨v, hv⟩ : ∃ v, fmtK ks[j] = v := ⟨_, rfl⟩
        have HSTEP := hid (fmtL_take ks j hlt)
        have hlen : t.length + 1 + v.length ≤ 500 := by
          have h1 := congrArg List.length HSTEP.out
          have h2 := fmtL_take_len ks (j + 1)
          have h3 := HLEN.out
          have h4 := congrArg List.length HT.out
          rw [hv] at h1
          simp at h1 h4 h3
          omega
        have HV := hid hv
        rw [hv] at HC
        have s1 : t.length + 1 ≤ 9223372036854775807 := by omega
        have s2 : t.length + 1 + v.length ≤ 9223372036854775807 := by omega
        have s3 : (t.length : Int) + 1 + v.length ≤ 9223372036854775807 := by omega
        clear hv hlen
        generalize ks[j].kind = kk at *
        generalize ks[j].flag = kf at *
        generalize ks[j].text = kt at *
        go_wp2_with fail
        refine (HC.out _ HK.out).mono ?_
        rintro e w1 ⟨rfl, hK1⟩
        have HK1 := hid (HK.out.trans hK1)
        have HZ1 := hid (hK1.same HZW.out (by simp))
        clear hK1
        go_wp2
        go_roundg (ks.length - (j + 1))
        case measure => rw [HM.out]; omega
        case rel => exact ⟨j + 1, t ++ 32 :: v, rfl, by omega, by go_num, by simp only [add_bs, add_c, List.append_assoc, List.cons_append, List.nil_append], by rw [HSTEP.out, HT.out, HV.out, List.append_assoc], HK1.out, HZ1.out⟩
      · obtain rfl : j = ks.length := by omega
        have HR : Hid (t = fmtK (.mk 2 b c d ks)) := by show _ = _; unfold fmtK; rw [HT.out, List.take_length, HHD.out]
        go_wp2
        go_ret
        exact ⟨ret_str (by rw [HR.out]), HK.out⟩
  · obtain ⟨ha, -, -, hd, -⟩ := h
    have hsl := (setT_facts d).2
    rcases ha with rfl | rfl
    · have HHD : Hid (headT 3 b c d = tAt ++ 32 :: setT d) := rfl
      rw [HHD.out] at HLEN
      have s0 : 3 + (setT d).length ≤ 9223372036854775807 := by have := HLEN.out; simp at this; omega
      go_enter Tryz.func22, Tryz.ntmps22
      go_wp2_with fail
      refine (HSX.out _ KA.out).mono ?_
      rintro e w1 ⟨rfl, hK1⟩
      have HK1 := hid (KA.out.trans hK1)
      have HZ1 := hid (hK1.same HZ.out (by simp))
      clear hK1
      go_wp2
      go_loopg [3, 6] ks.length (fun m out i W => ∃ (j : Nat) (t : List UInt8), m = ks.length - j ∧ j ≤ ks.length ∧ i = .int .i64 j ∧ out = .string (bs t) ∧ t = (tAt ++ 32 :: setT d) ++ fmtL (ks.take j) ∧ Kept [] w W ∧ W.heap[w.heap.size]? = some (.cells #[.int .i64 3, .int .i64 b, .string (bs c), .slice sa d.length scap, .slice a4 ks.length cap] 26 (0, 0)))
      case atStart => exact ⟨0, (tAt ++ 32 :: setT d), rfl, Nat.zero_le _, rfl, (by rw [show (tAt ++ 32 :: setT d) = (tAt ++ [32]) ++ setT d by simp, ← add_bs]; rfl), by simp [fmtL], HK1.out, HZ1.out⟩
      case round =>
        obtain ⟨j, t, hm, hj, rfl, rfl, ht, hK, hz⟩ := hrel
        have HM := hid hm
        have HT := hid ht
        have HK := hid hK
        have HZW := hid hz
        have z0 := cell_of_block hz 0
        have z1 := cell_of_block hz 1
        have z2 := cell_of_block hz 2
        have z3 := cell_of_block hz 3
        have z4 := cell_of_block hz 4
        have hzl := lt_of_block hz
        simp at z0 z1 z2 z3 z4
        clear hm ht hK hz
        by_cases hlt : j < ks.length
        · obtain ⟨rfl, -, hbw⟩ := HBA.out (by omega)
          obtain ⟨sv1, kv1, c0, c1, c2, c3, c4, hk1⟩ := KeysIn.get b4 off ks HKS.out j hlt
          have c0 := HK.out.cell_some c0 (by simp)
          have c1 := HK.out.cell_some c1 (by simp)
          have c2 := HK.out.cell_some c2 (by simp)
          have c3 := HK.out.cell_some c3 (by simp)
          have c4 := HK.out.cell_some c4 (by simp)
          have HC := hid (fun W (hW : Kept [] w W) => HIH.out ks[j] sv1 kv1 W (HNK.out _ (List.getElem_mem _)).1 (HNK.out _ (List.getElem_mem _)).2.1 (HNK.out _ (List.getElem_mem _)).2.2 (KeyIn.kept hW (by simp) _ _ _ hk1))
          have i1 : (j : Int) < ks.length := by omega
          have i4 : j < cap := by omega
          clear hk1
          obtain ⟨v, hv⟩ : ∃ v, fmtK ks[j] = v := ⟨_, rfl⟩
          have HSTEP := hid (fmtL_take ks j hlt)
          have hlen : t.length + 1 + v.length ≤ 500 := by
            have h1 := congrArg List.length HSTEP.out
            have h2 := fmtL_take_len ks (j + 1)
            have h3 := HLEN.out
            have h4 := congrArg List.length HT.out
            rw [hv] at h1
            simp at h1 h4 h3
            omega
          have HV := hid hv
          rw [hv] at HC
          have s1 : t.length + 1 ≤ 9223372036854775807 := by omega
          have s2 : t.length + 1 + v.length ≤ 9223372036854775807 := by omega
          have s3 : (t.length : Int) + 1 + v.length ≤ 9223372036854775807 := by omega
          clear hv hlen
          generalize ks[j].kind = kk at *
          generalize ks[j].flag = kf at *
          generalize ks[j].text = kt at *
          go_wp2_with fail
          refine (HC.out _ HK.out).mono ?_
          rintro e w1 ⟨rfl, hK1⟩
          have HK1 := hid (HK.out.trans hK1)
          have HZ1 := hid (hK1.same HZW.out (by simp))
          clear hK1
          go_wp2
          go_roundg (ks.length - (j + 1))
          case measure => rw [HM.out]; omega
          case rel => exact ⟨j + 1, t ++ 32 :: v, rfl, by omega, by go_num, by simp only [add_bs, add_c, List.append_assoc, List.cons_append, List.nil_append], by rw [HSTEP.out, HT.out, HV.out, List.append_assoc], HK1.out, HZ1.out⟩
        · obtain rfl : j = ks.length := by omega
          have HR : Hid (t = fmtK (.mk 3 b c d ks)) := by show _ = _; unfold fmtK; rw [HT.out, List.take_length, HHD.out]
          go_wp2
          go_ret
          exact ⟨ret_str (by rw [HR.out]), HK.out⟩
    · have HHD : Hid (headT 4 b c d = tUid ++ 32 :: setT d) := rfl
      rw [HHD.out] at HLEN
      have s0 : 4 + (setT d).length ≤ 9223372036854775807 := by have := HLEN.out; simp at this; omega
      go_enter Tryz.func22, Tryz.ntmps22
      go_wp2_with fail
      refine (HSX.out _ KA.out).mono ?_
      rintro e w1 ⟨rfl, hK1⟩
      have HK1 := hid (KA.out.trans hK1)
      have HZ1 := hid (hK1.same HZ.out (by simp))
      clear hK1
      go_wp2
      go_loopg [3, 6] ks.length (fun m out i W => ∃ (j : Nat) (t : List UInt8), m = ks.length - j ∧ j ≤ ks.length ∧ i = .int .i64 j ∧ out = .string (bs t) ∧ t = (tUid ++ 32 :: setT d) ++ fmtL (ks.take j) ∧ Kept [] w W ∧ W.heap[w.heap.size]? = some (.cells #[.int .i64 4, .int .i64 b, .string (bs c), .slice sa d.length scap, .slice a4 ks.length cap] 26 (0, 0)))
      case atStart => exact ⟨0, (tUid ++ 32 :: setT d), rfl, Nat.zero_le _, rfl, (by rw [show (tUid ++ 32 :: setT d) = (tUid ++ [32]) ++ setT d by simp, ← add_bs]; rfl), by simp [fmtL], HK1.out, HZ1.out⟩
      case round =>
        obtain ⟨j, t, hm, hj, rfl, rfl, ht, hK, hz⟩ := hrel
        have HM := hid hm
        have HT := hid ht
        have HK := hid hK
        have HZW := hid hz
        have z0 := cell_of_block hz 0
        have z1 := cell_of_block hz 1
        have z2 := cell_of_block hz 2
        have z3 := cell_of_block hz 3
        have z4 := cell_of_block hz 4
        have hzl := lt_of_block hz
        simp at z0 z1 z2 z3 z4
        clear hm ht hK hz
        by_cases hlt : j < ks.length
        · obtain ⟨rfl, -, hbw⟩ := HBA.out (by omega)
          obtain ⟨sv1, kv1, c0, c1, c2, c3, c4, hk1⟩ := KeysIn.get b4 off ks HKS.out j hlt
          have c0 := HK.out.cell_some c0 (by simp)
          have c1 := HK.out.cell_some c1 (by simp)
          have c2 := HK.out.cell_some c2 (by simp)
          have c3 := HK.out.cell_some c3 (by simp)
          have c4 := HK.out.cell_some c4 (by simp)
          have HC := hid (fun W (hW : Kept [] w W) => HIH.out ks[j] sv1 kv1 W (HNK.out _ (List.getElem_mem _)).1 (HNK.out _ (List.getElem_mem _)).2.1 (HNK.out _ (List.getElem_mem _)).2.2 (KeyIn.kept hW (by simp) _ _ _ hk1))
          have i1 : (j : Int) < ks.length := by omega
          have i4 : j < cap := by omega
          clear hk1
          obtain ⟨v, hv⟩ : ∃ v, fmtK ks[j] = v := ⟨_, rfl⟩
          have HSTEP := hid (fmtL_take ks j hlt)
          have hlen : t.length + 1 + v.length ≤ 500 := by
            have h1 := congrArg List.length HSTEP.out
            have h2 := fmtL_take_len ks (j + 1)
            have h3 := HLEN.out
            have h4 := congrArg List.length HT.out
            rw [hv] at h1
            simp at h1 h4 h3
            omega
          have HV := hid hv
          rw [hv] at HC
          have s1 : t.length + 1 ≤ 9223372036854775807 := by omega
          have s2 : t.length + 1 + v.length ≤ 9223372036854775807 := by omega
          have s3 : (t.length : Int) + 1 + v.length ≤ 9223372036854775807 := by omega
          clear hv hlen
          generalize ks[j].kind = kk at *
          generalize ks[j].flag = kf at *
          generalize ks[j].text = kt at *
          go_wp2_with fail
          refine (HC.out _ HK.out).mono ?_
          rintro e w1 ⟨rfl, hK1⟩
          have HK1 := hid (HK.out.trans hK1)
          have HZ1 := hid (hK1.same HZW.out (by simp))
          clear hK1
          go_wp2
          go_roundg (ks.length - (j + 1))
          case measure => rw [HM.out]; omega
          case rel => exact ⟨j + 1, t ++ 32 :: v, rfl, by omega, by go_num, by simp only [add_bs, add_c, List.append_assoc, List.cons_append, List.nil_append], by rw [HSTEP.out, HT.out, HV.out, List.append_assoc], HK1.out, HZ1.out⟩
        · obtain rfl : j = ks.length := by omega
          have HR : Hid (t = fmtK (.mk 4 b c d ks)) := by show _ = _; unfold fmtK; rw [HT.out, List.take_length, HHD.out]
          go_wp2
          go_ret
          exact ⟨ret_str (by rw [HR.out]), HK.out⟩
  · obtain ⟨rfl, -⟩ := h
    have HHD : Hid (headT 5 b c d = tNot) := rfl
    rw [HHD.out] at HLEN
    go_enter Tryz.func22, Tryz.ntmps22
    go_wp2
    go_loopg [3, 6] ks.length (fun m out i W => ∃ (j : Nat) (t : List UInt8), m = ks.length - j ∧ j ≤ ks.length ∧ i = .int .i64 j ∧ out = .string (bs t) ∧ t = tNot ++ fmtL (ks.take j) ∧ Kept [] w W ∧ W.heap[w.heap.size]? = some (.cells #[.int .i64 5, .int .i64 b, .string (bs c), .slice sa d.length scap, .slice a4 ks.length cap] 26 (0, 0)))
    case atStart => exact ⟨0, tNot, rfl, Nat.zero_le _, rfl, rfl, by simp [fmtL], KA.out, HZ.out⟩
    case round =>
      obtain ⟨j, t, hm, hj, rfl, rfl, ht, hK, hz⟩ := hrel
      have HM := hid hm
      have HT := hid ht
      have HK := hid hK
      have HZW := hid hz
      have z0 := cell_of_block hz 0
      have z1 := cell_of_block hz 1
      have z2 := cell_of_block hz 2
      have z3 := cell_of_block hz 3
      have z4 := cell_of_block hz 4
      have hzl := lt_of_block hz
      simp at z0 z1 z2 z3 z4
      clear hm ht hK hz
      by_cases hlt : j < ks.length
      · obtain ⟨rfl, -, hbw⟩ := HBA.out (by omega)
        obtain ⟨sv1, kv1, c0, c1, c2, c3, c4, hk1⟩ := KeysIn.get b4 off ks HKS.out j hlt
        have c0 := HK.out.cell_some c0 (by simp)
        have c1 := HK.out.cell_some c1 (by simp)
        have c2 := HK.out.cell_some c2 (by simp)
        have c3 := HK.out.cell_some c3 (by simp)
        have c4 := HK.out.cell_some c4 (by simp)
        have HC := hid (fun W (hW : Kept [] w W) => HIH.out ks[j] sv1 kv1 W (HNK.out _ (List.getElem_mem _)).1 (HNK.out _ (List.getElem_mem _)).2.1 (HNK.out _ (List.getElem_mem _)).2.2 (KeyIn.kept hW (by simp) _ _ _ hk1))
        have i1 : (j : Int) < ks.length := by omega
        have i4 : j < cap := by omega
        clear hk1
        obtain ⟨v, hv⟩ : ∃ v, fmtK ks[j] = v := ⟨_, rfl⟩
        have HSTEP := hid (fmtL_take ks j hlt)
        have hlen : t.length + 1 + v.length ≤ 500 := by
          have h1 := congrArg List.length HSTEP.out
          have h2 := fmtL_take_len ks (j + 1)
          have h3 := HLEN.out
          have h4 := congrArg List.length HT.out
          rw [hv] at h1
          simp at h1 h4 h3
          omega
        have HV := hid hv
        rw [hv] at HC
        have s1 : t.length + 1 ≤ 9223372036854775807 := by omega
        have s2 : t.length + 1 + v.length ≤ 9223372036854775807 := by omega
        have s3 : (t.length : Int) + 1 + v.length ≤ 9223372036854775807 := by omega
        clear hv hlen
        generalize ks[j].kind = kk at *
        generalize ks[j].flag = kf at *
        generalize ks[j].text = kt at *
        go_wp2_with fail
        refine (HC.out _ HK.out).mono ?_
        rintro e w1 ⟨rfl, hK1⟩
        have HK1 := hid (HK.out.trans hK1)
        have HZ1 := hid (hK1.same HZW.out (by simp))
        clear hK1
        go_wp2
        go_roundg (ks.length - (j + 1))
        case measure => rw [HM.out]; omega
        case rel => exact ⟨j + 1, t ++ 32 :: v, rfl, by omega, by go_num, by simp only [add_bs, add_c, List.append_assoc, List.cons_append, List.nil_append], by rw [HSTEP.out, HT.out, HV.out, List.append_assoc], HK1.out, HZ1.out⟩
      · obtain rfl : j = ks.length := by omega
        have HR : Hid (t = fmtK (.mk 5 b c d ks)) := by show _ = _; unfold fmtK; rw [HT.out, List.take_length, HHD.out]
        go_wp2
        go_ret
        exact ⟨ret_str (by rw [HR.out]), HK.out⟩
  · obtain ⟨ha, -⟩ := h
    rcases ha with rfl | rfl
    · have HHD : Hid (headT 6 b c d = tAnd) := rfl
      rw [HHD.out] at HLEN
      go_enter Tryz.func22, Tryz.ntmps22
      go_wp2
      go_loopg [3, 6] ks.length (fun m out i W => ∃ (j : Nat) (t : List UInt8), m = ks.length - j ∧ j ≤ ks.length ∧ i = .int .i64 j ∧ out = .string (bs t) ∧ t = tAnd ++ fmtL (ks.take j) ∧ Kept [] w W ∧ W.heap[w.heap.size]? = some (.cells #[.int .i64 6, .int .i64 b, .string (bs c), .slice sa d.length scap, .slice a4 ks.length cap] 26 (0, 0)))
      case atStart => exact ⟨0, tAnd, rfl, Nat.zero_le _, rfl, rfl, by simp [fmtL], KA.out, HZ.out⟩
      case round =>
        obtain ⟨j, t, hm, hj, rfl, rfl, ht, hK, hz⟩ := hrel
        have HM := hid hm
        have HT := hid ht
        have HK := hid hK
        have HZW := hid hz
        have z0 := cell_of_block hz 0
        have z1 := cell_of_block hz 1
        have z2 := cell_of_block hz 2
        have z3 := cell_of_block hz 3
        have z4 := cell_of_block hz 4
        have hzl := lt_of_block hz
        simp at z0 z1 z2 z3 z4
        clear hm ht hK hz
        by_cases hlt : j < ks.length
        · obtain ⟨rfl, -, hbw⟩ := HBA.out (by omega)
          obtain ⟨sv1, kv1, c0, c1, c2, c3, c4, hk1⟩ := KeysIn.get b4 off ks HKS.out j hlt
          have c0 := HK.out.cell_some c0 (by simp)
          have c1 := HK.out.cell_some c1 (by simp)
          have c2 := HK.out.cell_some c2 (by simp)
          have c3 := HK.out.cell_some c3 (by simp)
          have c4 := HK.out.cell_some c4 (by simp)
          have HC := hid (fun W (hW : Kept [] w W) => HIH.out ks[j] sv1 kv1 W (HNK.out _ (List.getElem_mem _)).1 (HNK.out _ (List.getElem_mem _)).2.1 (HNK.out _ (List.getElem_mem _)).2.2 (KeyIn.kept hW (by simp) _ _ _ hk1))
          have i1 : (j : Int) < ks.length := by omega
          have i4 : j < cap := by omega
          clear hk1
          obtain ⟨v, hv⟩ : ∃ v, fmtK ks[j] = v := ⟨_, rfl⟩
          have HSTEP := hid (fmtL_take ks j hlt)
          have hlen : t.length + 1 + v.length ≤ 500 := by
            have h1 := congrArg List.length HSTEP.out
            have h2 := fmtL_take_len ks (j + 1)
            have h3 := HLEN.out
            have h4 := congrArg List.length HT.out
            rw [hv] at h1
            simp at h1 h4 h3
            omega
          have HV := hid hv
          rw [hv] at HC
          have s1 : t.length + 1 ≤ 9223372036854775807 := by omega
          have s2 : t.length + 1 + v.length ≤ 9223372036854775807 := by omega
          have s3 : (t.length : Int) + 1 + v.length ≤ 9223372036854775807 := by omega
          clear hv hlen
          generalize ks[j].kind = kk at *
          generalize ks[j].flag = kf at *
          generalize ks[j].text = kt at *
          go_wp2_with fail
          refine (HC.out _ HK.out).mono ?_
          rintro e w1 ⟨rfl, hK1⟩
          have HK1 := hid (HK.out.trans hK1)
          have HZ1 := hid (hK1.same HZW.out (by simp))
          clear hK1
          go_wp2
          go_roundg (ks.length - (j + 1))
          case measure => rw [HM.out]; omega
          case rel => exact ⟨j + 1, t ++ 32 :: v, rfl, by omega, by go_num, by simp only [add_bs, add_c, List.append_assoc, List.cons_append, List.nil_append], by rw [HSTEP.out, HT.out, HV.out, List.append_assoc], HK1.out, HZ1.out⟩
        · obtain rfl : j = ks.length := by omega
          have HR : Hid (t = fmtK (.mk 6 b c d ks)) := by show _ = _; unfold fmtK; rw [HT.out, List.take_length, HHD.out]
          go_wp2
          go_ret
          exact ⟨ret_str (by rw [HR.out]), HK.out⟩
    · have HHD : Hid (headT 7 b c d = tOr) := rfl
      rw [HHD.out] at HLEN
      go_enter Tryz.func22, Tryz.ntmps22
      go_wp2
      go_loopg [3, 6] ks.length (fun m out i W => ∃ (j : Nat) (t : List UInt8), m = ks.length - j ∧ j ≤ ks.length ∧ i = .int .i64 j ∧ out = .string (bs t) ∧ t = tOr ++ fmtL (ks.take j) ∧ Kept [] w W ∧ W.heap[w.heap.size]? = some (.cells #[.int .i64 7, .int .i64 b, .string (bs c), .slice sa d.length scap, .slice a4 ks.length cap] 26 (0, 0)))
      case atStart => exact ⟨0, tOr, rfl, Nat.zero_le _, rfl, rfl, by simp [fmtL], KA.out, HZ.out⟩
      case round =>
        obtain ⟨j, t, hm, hj, rfl, rfl, ht, hK, hz⟩ := hrel
        have HM := hid hm
        have HT := hid ht
        have HK := hid hK
        have HZW := hid hz
        have z0 := cell_of_block hz 0
        have z1 := cell_of_block hz 1
        have z2 := cell_of_block hz 2
        have z3 := cell_of_block hz 3
        have z4 := cell_of_block hz 4
        have hzl := lt_of_block hz
        simp at z0 z1 z2 z3 z4
        clear hm ht hK hz
        by_cases hlt : j < ks.length
        · obtain ⟨rfl, -, hbw⟩ := HBA.out (by omega)
          obtain ⟨sv1, kv1, c0, c1, c2, c3, c4, hk1⟩ := KeysIn.get b4 off ks HKS.out j hlt
          have c0 := HK.out.cell_some c0 (by simp)
          have c1 := HK.out.cell_some c1 (by simp)
          have c2 := HK.out.cell_some c2 (by simp)
          have c3 := HK.out.cell_some c3 (by simp)
          have c4 := HK.out.cell_some c4 (by simp)
          have HC := hid (fun W (hW : Kept [] w W) => HIH.out ks[j] sv1 kv1 W (HNK.out _ (List.getElem_mem _)).1 (HNK.out _ (List.getElem_mem _)).2.1 (HNK.out _ (List.getElem_mem _)).2.2 (KeyIn.kept hW (by simp) _ _ _ hk1))
          have i1 : (j : Int) < ks.length := by omega
          have i4 : j < cap := by omega
          clear hk1
          obtain ⟨v, hv⟩ : ∃ v, fmtK ks[j] = v := ⟨_, rfl⟩
          have HSTEP := hid (fmtL_take ks j hlt)
          have hlen : t.length + 1 + v.length ≤ 500 := by
            have h1 := congrArg List.length HSTEP.out
            have h2 := fmtL_take_len ks (j + 1)
            have h3 := HLEN.out
            have h4 := congrArg List.length HT.out
            rw [hv] at h1
            simp at h1 h4 h3
            omega
          have HV := hid hv
          rw [hv] at HC
          have s1 : t.length + 1 ≤ 9223372036854775807 := by omega
          have s2 : t.length + 1 + v.length ≤ 9223372036854775807 := by omega
          have s3 : (t.length : Int) + 1 + v.length ≤ 9223372036854775807 := by omega
          clear hv hlen
          generalize ks[j].kind = kk at *
          generalize ks[j].flag = kf at *
          generalize ks[j].text = kt at *
          go_wp2_with fail
          refine (HC.out _ HK.out).mono ?_
          rintro e w1 ⟨rfl, hK1⟩
          have HK1 := hid (HK.out.trans hK1)
          have HZ1 := hid (hK1.same HZW.out (by simp))
          clear hK1
          go_wp2
          go_roundg (ks.length - (j + 1))
          case measure => rw [HM.out]; omega
          case rel => exact ⟨j + 1, t ++ 32 :: v, rfl, by omega, by go_num, by simp only [add_bs, add_c, List.append_assoc, List.cons_append, List.nil_append], by rw [HSTEP.out, HT.out, HV.out, List.append_assoc], HK1.out, HZ1.out⟩
        · obtain rfl : j = ks.length := by omega
          have HR : Hid (t = fmtK (.mk 7 b c d ks)) := by show _ = _; unfold fmtK; rw [HT.out, List.take_length, HHD.out]
          go_wp2
          go_ret
          exact ⟨ret_str (by rw [HR.out]), HK.out⟩
end Go.Proofs.YtoleonldkifcbaaGreatDoor
namespace Go.Proofs.YtoleonldkifcbaaGreatDoor
open Go.RowKit

/-- The word of the flag at a place. -/
def wordN (k : Nat) : List UInt8 := if k = 0 then tSeen else if k = 1 then tAnswered else if k = 2 then tFlagged else if k = 3 then tDeleted else tDraft
/-- The word found after some flags. -/
def flJ (b : Int) : Nat → List UInt8
  | 0 => []
  | k + 1 => if bitN k = b then wordN k else flJ b k
theorem flJ_end (b : Int) : flJ b 5 = flT b := by
  by_cases h1 : b = 1
  · subst h1; rfl
  by_cases h2 : b = 2
  · subst h2; rfl
  by_cases h3 : b = 4
  · subst h3; rfl
  by_cases h4 : b = 8
  · subst h4; rfl
  by_cases h5 : b = 16
  · subst h5; rfl
  simp [flJ, flT, bitN, h1, h2, h3, h4, h5, eq_comm (b := b)]
/-- The words in memory. -/
def namesB : Obj := .cells #[.string ⟨#[115, 101, 101, 110]⟩, .string ⟨#[97, 110, 115, 119, 101, 114, 101, 100]⟩, .string ⟨#[102, 108, 97, 103, 103, 101, 100]⟩, .string ⟨#[100, 101, 108, 101, 116, 101, 100]⟩, .string ⟨#[100, 114, 97, 102, 116]⟩] 9 (0, 0)
theorem names_get {w : World} {p : Nat} (h : w.heap[p]? = some namesB) (j : Nat) (hj : j < 5) : w.cell? ⟨p, j, none⟩ = some (.string (bs (wordN j))) := by
  have := cell_of_block h j
  rw [this]
  obtain rfl | rfl | rfl | rfl | rfl : j = 0 ∨ j = 1 ∨ j = 2 ∨ j = 3 ∨ j = 4 := by omega
  all_goals rfl

set_option maxRecDepth 100000 in
set_option maxHeartbeats 8000000 in
theorem has_any (lo n : Nat) (ih : FmtGoes lo n) : HasGoes lo (n + 1) := by
  intro k sv kv w hk1 hnk hav hnine h
  obtain ⟨a, b, c, d, ks⟩ := k
  have hk1 : a = 1 := hk1
  subst hk1
  have hlen := (wordsK_ok _ hav).2.2.2.2
  obtain ⟨hcl, hsp, a4, cap, b4, off, hkv, hl1, hl2, hba, hks⟩ := h.parts
  have hkv : kv = .slice a4 ks.length cap := hkv
  subst hkv
  obtain ⟨sa, scap, rfl⟩ := hsp.form
  simp only [Ky.keys, Ky.text, Ky.set, Ky.kind, Ky.flag] at hcl hsp hl1 hl2 hba hks ⊢
  have HKS := hid hks
  have HBA := hid hba
  have hn63 : ks.length ≤ 2 ^ 63 - 1 := by have := Nat.le_trans hl1 bigN_le; unfold maxLen at this; exact this
  have hav2 : allL ks = true ∧ nodeOk 1 b c d ks.length = true := by unfold allK at hav; simpa using hav
  have HNK : Hid (∀ x ∈ ks, nodesK x < n ∧ allK x = true ∧ nodesK x ≤ 9) := fun x hx => by
    have h1 := nodesL_mem hx
    unfold nodesK at hnk hnine
    exact ⟨by omega, (allL_iff ks).1 hav2.1 x hx, by omega⟩
  have HHD : Hid (headT 1 b c d = flT b) := rfl
  have HLEN : Hid ((flT b).length + (fmtL ks).length ≤ 450) := by
    show _ ≤ _
    unfold fmtK at hlen; rw [HHD.out] at hlen; simp at hlen; omega
  have KA := hid ((Kept.refl [] w).alloc (Obj.cells #[.int .i64 1, .int .i64 b, .string (bs c), .slice sa d.length scap, .slice a4 ks.length cap] 26))
  have HZ := hid (new_block w (Obj.cells #[.int .i64 1, .int .i64 b, .string (bs c), .slice sa d.length scap, .slice a4 ks.length cap] 26))
  have KB := hid (KA.out.alloc namesB)
  have HZB := hid (alloc_block HZ.out namesB)
  have HNB := hid (new_block2 w (Obj.cells #[.int .i64 1, .int .i64 b, .string (bs c), .slice sa d.length scap, .slice a4 ks.length cap] 26) namesB)
  have HIH := hid ih
  clear h hsp hks hba hnk ih hlen hav hav2 hnine hcl
  go_enter Tryz.func22, Tryz.ntmps22
  go_wp2
  go_loopg [3, 5] 5 (fun m out i W => ∃ (j : Nat) (t : List UInt8), m = 5 - j ∧ j ≤ 5 ∧ i = .int .i64 j ∧ out = .string (bs t) ∧ t = flJ b j ∧ Kept [] w W ∧
    W.heap[w.heap.size]? = some (.cells #[.int .i64 1, .int .i64 b, .string (bs c), .slice sa d.length scap, .slice a4 ks.length cap] 26 (0, 0)) ∧ W.heap[w.heap.size + 1]? = some namesB)
  case atStart => exact ⟨0, [], rfl, Nat.zero_le _, rfl, rfl, rfl, KB.out, HZB.out, HNB.out⟩
  case round =>
    obtain ⟨j, t, hm, hj, rfl, rfl, ht, hK, hz, hnb⟩ := hrel
    have HM := hid hm
    have HT := hid ht
    have HK := hid hK
    have HZW := hid hz
    have HNW := hid hnb
    have z0 := cell_of_block hz 0
    have z1 := cell_of_block hz 1
    have z2 := cell_of_block hz 2
    have z3 := cell_of_block hz 3
    have z4 := cell_of_block hz 4
    have hzl := lt_of_block hz
    have hnl := lt_of_block hnb
    simp at z0 z1 z2 z3 z4
    clear hm ht hK hz
    by_cases hlt : j < 5
    · have nj := names_get hnb j hlt
      clear hnb
      have i1 : (j : Int) < 5 := by omega
      have HL := hid (fun W => l4Bit_any j hlt W)
      obtain ⟨v, hv⟩ : ∃ v, bitN j = v := ⟨_, rfl⟩
      obtain ⟨wj, hwj⟩ : ∃ v, wordN j = v := ⟨_, rfl⟩
      have HSTEP : Hid (flJ b (j + 1) = if v = b then wj else flJ b j) := by show _ = _; rw [← hv, ← hwj]; rfl
      rw [hv] at HL
      rw [hwj] at nj
      clear hv hwj
      go_wp2
      have CK := hid (fun W (h : Kept [] wr W) => (show W.cell? ⟨w.heap.size, 1, none⟩ = some (.int .i64 b) from h.cell_some z1 (by simp)))
      go_region_held3 (fun w' => w'.cell? ⟨w.heap.size, 1, none⟩ = some (.int .i64 b))
        (first
          | go_keep
          | exact CK.out _ (by repeat' with_reducible first | exact hKK | exact Kept.refl _ _ | refine Kept.drew ?_ | refine Kept.alloc ?_ _))
        ((go_at_call 42; with_reducible refine (HL.out _).mono ?_; rintro e w2 ⟨rfl, hK2⟩; have hKK := Kept.trans (a := wr) (by repeat' with_reducible first | exact Kept.refl _ _ | refine Kept.drew ?_ | refine Kept.alloc ?_ _) hK2))
      all_goals
        refine gen_world (fun W => Kept [] wr W) ?_ ?_
        · repeat' with_reducible first | exact hKK | refine Kept.drewN ?_ _ | refine Kept.drew ?_ | refine Kept.alloc ?_ _
        intro W hKW
        have nj := hKW.cell_some nj (by simp)
        have HKW := hid hKW
        clear hKW
        by_cases hvb : v = b
        · have HR : Hid (flJ b (j + 1) = wj) := by show _ = _; rw [HSTEP.out, if_pos hvb]
          have hvb' : (v == b) = true := by simpa using hvb
          clear hvb
          go_wp2
          go_roundg (5 - (j + 1))
          case measure => rw [HM.out]; omega
          case rel => exact ⟨j + 1, wj, rfl, by omega, by go_num, rfl, HR.out.symm, HK.out.trans HKW.out, HKW.out.same HZW.out (by simp), HKW.out.same HNW.out (by simp)⟩
        · have HR : Hid (flJ b (j + 1) = t) := by show _ = _; rw [HSTEP.out, if_neg hvb, HT.out]
          have hvb' : (v == b) = false := by simpa using hvb
          clear hvb
          go_wp2
          go_roundg (5 - (j + 1))
          case measure => rw [HM.out]; omega
          case rel => exact ⟨j + 1, t, rfl, by omega, by go_num, rfl, HR.out.symm, HK.out.trans HKW.out, HKW.out.same HZW.out (by simp), HKW.out.same HNW.out (by simp)⟩
    · obtain rfl : j = 5 := by omega
      have HF : Hid (t = flT b) := by show _ = _; rw [HT.out, flJ_end]
      clear hnb
      go_wp2
      go_loopg [3, 6] ks.length (fun m out i W => ∃ (j : Nat) (t : List UInt8), m = ks.length - j ∧ j ≤ ks.length ∧ i = .int .i64 j ∧ out = .string (bs t) ∧ t = (flT b) ++ fmtL (ks.take j) ∧ Kept [] w W ∧ W.heap[w.heap.size]? = some (.cells #[.int .i64 1, .int .i64 b, .string (bs c), .slice sa d.length scap, .slice a4 ks.length cap] 26 (0, 0)))
      case atStart => exact ⟨0, (flT b), rfl, Nat.zero_le _, rfl, (by rw [HF.out]), by simp [fmtL], HK.out, HZW.out⟩
      case round =>
        obtain ⟨j, t, hm, hj, rfl, rfl, ht, hK, hz⟩ := hrel
        have HM := hid hm
        have HT := hid ht
        have HK := hid hK
        have HZW := hid hz
        have z0 := cell_of_block hz 0
        have z1 := cell_of_block hz 1
        have z2 := cell_of_block hz 2
        have z3 := cell_of_block hz 3
        have z4 := cell_of_block hz 4
        have hzl := lt_of_block hz
        simp at z0 z1 z2 z3 z4
        clear hm ht hK hz
        by_cases hlt : j < ks.length
        · obtain ⟨rfl, -, hbw⟩ := HBA.out (by omega)
          obtain ⟨sv1, kv1, c0, c1, c2, c3, c4, hk1⟩ := KeysIn.get b4 off ks HKS.out j hlt
          have c0 := HK.out.cell_some c0 (by simp)
          have c1 := HK.out.cell_some c1 (by simp)
          have c2 := HK.out.cell_some c2 (by simp)
          have c3 := HK.out.cell_some c3 (by simp)
          have c4 := HK.out.cell_some c4 (by simp)
          have HC := hid (fun W (hW : Kept [] w W) => HIH.out ks[j] sv1 kv1 W (HNK.out _ (List.getElem_mem _)).1 (HNK.out _ (List.getElem_mem _)).2.1 (HNK.out _ (List.getElem_mem _)).2.2 (KeyIn.kept hW (by simp) _ _ _ hk1))
          have i1 : (j : Int) < ks.length := by omega
          have i4 : j < cap := by omega
          clear hk1
          obtain ⟨v, hv⟩ : ∃ v, fmtK ks[j] = v := ⟨_, rfl⟩
          have HSTEP := hid (fmtL_take ks j hlt)
          have hlen : t.length + 1 + v.length ≤ 500 := by
            have h1 := congrArg List.length HSTEP.out
            have h2 := fmtL_take_len ks (j + 1)
            have h3 := HLEN.out
            have h4 := congrArg List.length HT.out
            rw [hv] at h1
            simp at h1 h4 h3
            omega
          have HV := hid hv
          rw [hv] at HC
          have s1 : t.length + 1 ≤ 9223372036854775807 := by omega
          have s2 : t.length + 1 + v.length ≤ 9223372036854775807 := by omega
          have s3 : (t.length : Int) + 1 + v.length ≤ 9223372036854775807 := by omega
          clear hv hlen
          generalize ks[j].kind = kk at *
          generalize ks[j].flag = kf at *
          generalize ks[j].text = kt at *
          go_wp2_with fail
          refine (HC.out _ HK.out).mono ?_
          rintro e w1 ⟨rfl, hK1⟩
          have HK1 := hid (HK.out.trans hK1)
          have HZ1 := hid (hK1.same HZW.out (by simp))
          clear hK1
          go_wp2
          go_roundg (ks.length - (j + 1))
          case measure => rw [HM.out]; omega
          case rel => exact ⟨j + 1, t ++ 32 :: v, rfl, by omega, by go_num, by simp only [add_bs, add_c, List.append_assoc, List.cons_append, List.nil_append], by rw [HSTEP.out, HT.out, HV.out, List.append_assoc], HK1.out, HZ1.out⟩
        · obtain rfl : j = ks.length := by omega
          have HR : Hid (t = fmtK (.mk 1 b c d ks)) := by show _ = _; unfold fmtK; rw [HT.out, List.take_length, HHD.out]
          go_wp2
          go_ret
          exact ⟨ret_str (by rw [HR.out]), HK.out⟩
end Go.Proofs.YtoleonldkifcbaaGreatDoor
namespace Go.Proofs.YtoleonldkifcbaaGreatDoor
open Go.RowKit

theorem fmt_goes (lo : Nat) : ∀ n, FmtGoes lo n
  | 0 => fun _ _ _ _ h => absurd h (Nat.not_lt_zero _)
  | n + 1 => fmt_step lo n (fmt_goes lo n) (has_any lo n (fmt_goes lo n))
theorem l12Format_any (lo : Nat) (k : Ky) (sv kv : Value) (w : World) (hv : validK k = true) (h : KeyIn lo w k sv kv) :
    Calls Tryz.prog 22 #[.agg #[.int .i64 k.kind, .int .i64 k.flag, .string (bs k.text), sv, kv]] w fun e w' => e = .returned (.string (bs (fmtK k))) ∧ Kept [] w w' :=
  fmt_goes lo (nodesK k + 1) k sv kv w (Nat.lt_succ_self _) (validK_all hv).1 (validK_all hv).2 h

set_option maxRecDepth 100000 in
set_option maxHeartbeats 4000000 in
theorem sKeyFormat_any (lo : Nat) (k : Ky) (sv kv : Value) (w : World) (hn : nodesK k ≤ bigN) (h : KeyIn lo w k sv kv) :
    Calls Tryz.prog 9 #[.agg #[.int .i64 k.kind, .int .i64 k.flag, .string (bs k.text), sv, kv]] w fun e w' => e = .returned (.string (bs (fmtV k))) ∧ Kept [] w w' := by
  have KA := hid ((Kept.refl [] w).alloc (Obj.cells #[.int .i64 k.kind, .int .i64 k.flag, .string (bs k.text), sv, kv] 26))
  have HZ := hid (new_block w (Obj.cells #[.int .i64 k.kind, .int .i64 k.flag, .string (bs k.text), sv, kv] 26))
  have HA := hid (fun W (hW : Kept [] w W) => sKeyValid_any lo k sv kv W hn (KeyIn.kept hW (by simp) _ _ _ h))
  have HB := hid (fun (hv : validK k = true) W (hW : Kept [] w W) => l12Format_any lo k sv kv W hv (KeyIn.kept hW (by simp) _ _ _ h))
  obtain ⟨hcl, hsp, a4, cap, b4, off, rfl, -, -, -, -⟩ := h.parts
  obtain ⟨sa, scap, rfl⟩ := hsp.form
  have HVD : Hid (fmtV k = if validK k = true then fmtK k else []) := rfl
  rw [HVD.out]
  clear h hsp hn hcl HVD
  generalize fmtK k = ft at *
  generalize validK k = av at *
  generalize k.kind = kk at *
  generalize k.flag = kf at *
  generalize k.text = kt at *
  generalize k.set.length = sl at *
  generalize k.keys.length = kl at *
  go_enter Tryz.func9, Tryz.ntmps9
  go_wp2_with fail
  refine (HA.out _ KA.out).mono ?_
  rintro e w1 ⟨rfl, hK1⟩
  have hz := hK1.same HZ.out (by simp)
  have z0 := cell_of_block hz 0
  have z1 := cell_of_block hz 1
  have z2 := cell_of_block hz 2
  have z3 := cell_of_block hz 3
  have z4 := cell_of_block hz 4
  have hzl := lt_of_block hz
  simp at z0 z1 z2 z3 z4
  have HK1 := hid (KA.out.trans hK1)
  clear hK1 hz
  cases av with
  | false =>
    go_wp2
    go_ret
    exact ⟨ret_str rfl, HK1.out⟩
  | true =>
    go_wp2_with fail
    refine (HB.out trivial _ HK1.out).mono ?_
    rintro e w2 ⟨rfl, hK2⟩
    have HK2 := hid (HK1.out.trans hK2)
    clear hK2
    go_wp2
    go_ret
    exact ⟨ret_str rfl, HK2.out⟩
end Go.Proofs.YtoleonldkifcbaaGreatDoor
namespace Go.Proofs.YtoleonldkifcbaaGreatDoor
open Go.RowKit

theorem leafS_nodes {w : List UInt8} {ws r : List (List UInt8)} {k : Ky} (h : leafS w ws = some (k, r)) : nodesK k = 1 ∧ r.length ≤ ws.length := by
  unfold leafS at h
  repeat' split at h
  all_goals first
    | (cases h; done)
    | (cases h; refine ⟨by simp [nodesK, nodesL], by simp⟩)
/-- A key read has no more nodes than words. -/
theorem readK_nodes : ∀ (n : Nat) (ws : List (List UInt8)) (k : Ky) (r : List (List UInt8)), readK n ws = some (k, r) → nodesK k + r.length ≤ ws.length := by
  intro n
  induction n with
  | zero => intro ws k r h; cases ws <;> cases h
  | succ n ih =>
    intro ws k r h
    cases ws with
    | nil => cases h
    | cons w ws =>
      unfold readK at h
      cases hj : wordJ w with
      | none =>
        rw [hj] at h
        have := leafS_nodes h
        simp; omega
      | some kt =>
        obtain ⟨kind, two⟩ := kt
        rw [hj] at h
        dsimp only at h
        cases h1 : readK n ws with
        | none => rw [h1] at h; cases h
        | some x =>
          obtain ⟨k1, r1⟩ := x
          rw [h1] at h
          dsimp only at h
          have g1 := ih _ _ _ h1
          cases two with
          | false =>
            simp only [Bool.false_eq_true, if_false] at h
            injection h with h; injection h with e1 e2; subst e1 e2
            simp [nodesK, nodesL]; omega
          | true =>
            simp only [if_true] at h
            cases h2 : readK n r1 with
            | none => rw [h2] at h; cases h
            | some y =>
              obtain ⟨k2, r2⟩ := y
              rw [h2] at h
              dsimp only at h
              have g2 := ih _ _ _ h2
              injection h with h; injection h with e1 e2; subst e1 e2
              simp [nodesK, nodesL]; omega
/-- More room reads the same. -/
theorem readK_fuel : ∀ (n m : Nat) (ws : List (List UInt8)), ws.length < n → ws.length < m → readK n ws = readK m ws := by
  intro n
  induction n with
  | zero => intro m ws h; omega
  | succ n ih =>
    intro m ws h1 h2
    obtain ⟨m, rfl⟩ : ∃ q, m = q + 1 := ⟨m - 1, by omega⟩
    cases ws with
    | nil => rfl
    | cons w ws =>
      simp at h1 h2
      unfold readK
      rw [ih m ws h1 h2]
      cases hj : wordJ w with
      | none => rfl
      | some kt =>
        obtain ⟨kind, two⟩ := kt
        dsimp only
        cases h3 : readK m ws with
        | none => rfl
        | some x =>
          obtain ⟨k1, r1⟩ := x
          have g1 := readK_nodes _ _ _ _ h3
          dsimp only
          rw [ih m r1 (by omega) (by omega)]

/-- A leaf that the reference tells: the key in memory, and how many words it takes. -/
def LeafRes (o : Option (Ky × List (List UInt8))) (ws : List (List UInt8)) (w : World) (e : Ending) (w' : World) : Prop :=
  ∃ (k : Ky) (sv kv : Value) (n : Nat), e = .returned (.tuple #[.agg #[.int .i64 k.kind, .int .i64 k.flag, .string (bs k.text), sv, kv], .int .i64 n]) ∧ Kept [] w w' ∧ KeyX w.heap.size w'.heap.size w' k sv kv ∧ match o with
    | some x => k = x.1 ∧ (n = 1 ∨ n = 2) ∧ x.2 = ws.drop (n - 1) ∧ n - 1 ≤ ws.length
    | none => n = 0
/-- What reading a key from a place on tells: where it ends. -/
def ReadRes (o : Option (Ky × List (List UInt8))) (L : List (List UInt8)) (w : World) (e : Ending) (w' : World) : Prop :=
  ∃ (k : Ky) (sv kv : Value) (n : Int), e = .returned (.tuple #[.agg #[.int .i64 k.kind, .int .i64 k.flag, .string (bs k.text), sv, kv], .int .i64 n]) ∧ Kept [] w w' ∧ KeyX w.heap.size w'.heap.size w' k sv kv ∧ match o with
    | some x => k = x.1 ∧ ∃ m : Nat, n = m ∧ m ≤ L.length ∧ x.2 = L.drop m
    | none => n = -1
end Go.Proofs.YtoleonldkifcbaaGreatDoor
