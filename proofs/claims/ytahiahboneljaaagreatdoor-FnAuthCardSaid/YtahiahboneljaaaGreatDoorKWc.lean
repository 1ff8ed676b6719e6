/- The walks of receivers and of the validity of submissions (both sides), and of paths behind a beginning. -/
import Derived.Test.YtahiahboneljaaaGreatDoorKWb
import Derived.Test.YtahiahboneljaaaGreatDoorKP
import Derived.Test.YtahiahboneljaaaGreatDoorShelf
namespace Go.Proofs.YtahiahboneljaaaGreatDoor
open Go.RowKit

/-- A slice value that holds strings. -/
def StrsAt (lo : Nat) (w : World) (v : Value) (l : List (List UInt8)) : Prop :=
  ∃ a cap b off, v = .slice a l.length cap ∧ l.length ≤ bigN ∧ l.length ≤ cap ∧ (0 < l.length → a = some ⟨b, off, none⟩ ∧ lo ≤ b ∧ b < w.heap.size) ∧
    ∀ j (h : j < l.length), w.cell? ⟨b, off + j, none⟩ = some (.string (bs l[j])) ∧ l[j].length ≤ bigN

theorem StrsAt.kept {lo : Nat} {w w' : World} {v : Value} {l : List (List UInt8)} {bs : List Nat} (h : StrsAt lo w v l) (k : Kept bs w w') (hb : ∀ b ∈ bs, b < lo ∨ w.heap.size ≤ b) : StrsAt lo w' v l := by
  obtain ⟨a, cap, b, off, hv, hl, hc, ha, hcl⟩ := h
  refine ⟨a, cap, b, off, hv, hl, hc, fun h0 => ⟨(ha h0).1, (ha h0).2.1, Nat.lt_of_lt_of_le (ha h0).2.2 k.size⟩, fun j hj => ?_⟩
  have h1 := (ha (by omega)).2
  have hn : b ∉ bs := fun e => by rcases hb b e with h2 | h2 <;> omega
  obtain ⟨c0, c1⟩ := hcl j hj
  exact ⟨k.cell_some c0 hn, c1⟩
theorem StrsAt.kept0 {lo : Nat} {w w' : World} {v : Value} {l : List (List UInt8)} (h : StrsAt lo w v l) (k : Kept [] w w') : StrsAt lo w' v l := h.kept k (by simp)

/-- The first ones of a slice. -/
theorem StrsAt.take {lo : Nat} {w : World} {a : Option Addr} {n cap : Nat} {l : List (List UInt8)} (h : StrsAt lo w (.slice a n cap) l) (k : Nat) (hk : k ≤ l.length) : StrsAt lo w (.slice a k cap) (l.take k) := by
  obtain ⟨a', cap', b, off, hv, hl, hc, ha, hcl⟩ := h
  injection hv with e1 e2 e3
  subst e1 e2 e3
  have hlen : (l.take k).length = k := by simp; omega
  refine ⟨a, cap, b, off, by rw [hlen], by omega, by omega, fun h0 => ha (by omega), fun j hj => ?_⟩
  have := hcl j (by omega)
  simpa using this

theorem l21Has_any (lo : Nat) (v : Value) (l : List (List UInt8)) (nm : ByteArray) (w : World) (hu : StrsAt lo w v l) :
    Calls Tryz.prog 75 #[v, .string nm] w fun e w' => e = .returned (.bool (hasN l nm.data.toList)) ∧ w' = w := by
  obtain ⟨a, cap, b, off, rfl, hl, -, ha, hc⟩ := hu
  have HC := hid hc
  have hl63 : l.length ≤ 2 ^ 63 - 1 := by have := Nat.le_trans hl bigN_le; unfold maxLen at this; exact this
  have HAD := hid ha
  clear hc ha hl
  go_enter Tryz.func75, Tryz.ntmps75
  go_wp2
  go_loopg [5] l.length (fun m i wr => ∃ k : Nat, m = l.length - k ∧ k ≤ l.length ∧ i = .int .i64 k ∧ hasN (l.take k) nm.data.toList = false ∧ wr = w)
  case atStart => exact ⟨0, rfl, Nat.zero_le _, rfl, rfl, rfl⟩
  case round =>
    obtain ⟨k, hm, hk, rfl, hno, rfl⟩ := hrel
    have HM := hid hm
    have HN := hid hno
    clear hm hno
    by_cases hlt : k < l.length
    · obtain ⟨rfl, hlo, hbw⟩ := HAD.out (by omega)
      obtain ⟨hc0, -⟩ := HC.out k hlt
      by_cases hn : l[k] = nm.data.toList
      · have hn' : ((bs l[k]).toList == nm.toList) = true := by rw [str_eq, bs_toList, ByteArray.toList_eq]; simpa using hn
        have hf : hasN l nm.data.toList = true := by rw [hasN_iff, ← hn]; exact List.getElem_mem _
        have HF := hid hf
        clear hn hf
        go_wp2
        go_ret
        exact ⟨ret_bool HF.out.symm, rfl⟩
      · have hn' : ((bs l[k]).toList == nm.toList) = false := by rw [str_eq, bs_toList, ByteArray.toList_eq]; simpa using hn
        have HF := hid hn
        clear hn
        go_wp2
        go_roundg (l.length - (k + 1))
        case measure => have := HM.out; omega
        case rel => exact ⟨k + 1, rfl, by omega, by go_num, hasN_snoc hlt HN.out HF.out, rfl⟩
    · obtain rfl : k = l.length := by omega
      have hf : hasN l nm.data.toList = false := by have := HN.out; rwa [List.take_length] at this
      have HF := hid hf
      clear hf
      go_wp2
      go_ret
      exact ⟨ret_bool HF.out.symm, rfl⟩

/-- slices.Contains, over strings. -/
theorem contains_any (lo : Nat) (v : Value) (l : List (List UInt8)) (nm : ByteArray) (w : World) (hu : StrsAt lo w v l) :
    Calls Tryz.prog 67 #[v, .string nm] w fun e w' => e = .returned (.bool (hasN l nm.data.toList)) ∧ w' = w := by
  obtain ⟨a, cap, b, off, rfl, hl, -, ha, hc⟩ := hu
  by_cases h0 : 0 < l.length
  · obtain ⟨rfl, -, -⟩ := ha h0
    have := Tryz.slices_Contains_string b off l.length cap (l.map bs) nm w (by simp) (by have := bigN_le; unfold maxLen at this; omega) (fun j hj => by
      simp only [List.length_map] at hj
      rw [(hc j hj).1]; simp [hj])
    rw [List.take_of_length_le (by simp), contains_bs] at this
    exact this
  · have hl0 : l = [] := by cases l with | nil => rfl | cons _ _ => simp at h0
    subst hl0
    exact Tryz.slices_Contains_string_empty a cap nm w

theorem receivers_any (lo : Nat) (v : Value) (l : List (List UInt8)) (w : World) (hu : StrsAt lo w v l) :
    Calls Tryz.prog 40 #[v] w fun e w' => e = .returned (.bool (rcvOk l)) ∧ Kept [] w w' := by
  have HU := hid hu
  obtain ⟨a, cap, b, off, rfl, hl, hcap, ha, hc⟩ := hu
  have hdef : rcvOk l = ((decide (1 ≤ l.length) && decide (l.length ≤ 3)) && nmsOk [] l) := rfl
  have HD := hid hdef
  have HC := hid hc
  have HL := hid hl
  clear hdef hc hl
  by_cases h1 : l.length < 1
  · have h1' : (l.length : Int) < 1 := by omega
    clear ha
    go_enter Tryz.func40, Tryz.ntmps40
    go_wp2
    go_ret
    exact ⟨ret_bool (by rw [HD.out, decide_eq_false (by omega)]; simp), Kept.refl _ _⟩
  by_cases h4 : 3 < l.length
  · have h1' : ¬ (l.length : Int) < 1 := by omega
    have h4' : (3 : Int) < l.length := by omega
    clear ha
    go_enter Tryz.func40, Tryz.ntmps40
    go_wp2
    go_ret
    exact ⟨ret_bool (by rw [HD.out, decide_eq_false (p := l.length ≤ 3) (by omega)]; simp), Kept.refl _ _⟩
  have h1' : ¬ (l.length : Int) < 1 := by omega
  have h4' : ¬ (3 : Int) < l.length := by omega
  obtain ⟨rfl, hlo, hbw⟩ := ha (by omega)
  clear ha
  go_enter Tryz.func40, Tryz.ntmps40
  go_wp2
  go_loopg [15] l.length (fun m i wr => ∃ k : Nat, m = l.length - k ∧ k ≤ l.length ∧ i = .int .i64 k ∧ nmsOk [] (l.take k) = true ∧ Kept [] w wr)
  case atStart => exact ⟨0, rfl, Nat.zero_le _, rfl, rfl, Kept.refl _ _⟩
  case round =>
    obtain ⟨k, hm, hk, rfl, hasc, hK⟩ := hrel
    have HM := hid hm
    have HK := hid hK
    have HA := hid hasc
    have HUr := hid (HU.out.kept0 hK)
    clear hm hasc
    by_cases hlt : k < l.length
    · obtain ⟨c0, c1⟩ := HC.out k hlt
      have hc0 := hK.cell_some c0 (by simp)
      have HT := hid (nmsOk_take k hlt HA.out)
      have HP := hid (fun h => nmsOk_part (l := l) (k + 1) h)
      have hkc : k ≤ cap := by omega
      clear hK c0
      go_wp2_with fail
      refine (iName_bs l[k] _ c1).mono ?_
      rintro e w1 ⟨rfl, hK⟩
      have HK1 := hid (HK.out.trans hK)
      have HU1 := hid ((HUr.out.take k hk).kept0 hK)
      clear hK hc0
      cases hv : isName l[k] with
      | false =>
        have HV := hid hv
        clear hv
        go_wp2
        go_ret
        exact ⟨ret_bool (by rw [HD.out, HP.out (by rw [HT.out, HV.out]; simp)]; simp), HK1.out⟩
      | true =>
        have HV := hid hv
        clear hv
        go_wp2_with fail
        refine (contains_any lo _ (l.take k) (bs l[k]) _ HU1.out).mono ?_
        rintro e w2 ⟨rfl, rfl⟩
        rw [bs_toList]
        cases hh : hasN (l.take k) l[k] with
        | true =>
          have HH := hid hh
          clear hh
          go_wp2
          go_ret
          exact ⟨ret_bool (by rw [HD.out, HP.out (by rw [HT.out, HV.out, HH.out]; simp)]; simp), HK1.out⟩
        | false =>
          have HH := hid hh
          clear hh
          go_wp2
          go_roundg (l.length - (k + 1))
          case measure => have := HM.out; omega
          case rel => exact ⟨k + 1, rfl, by omega, by go_num, by rw [HT.out, HV.out, HH.out]; rfl, HK1.out⟩
    · obtain rfl : k = l.length := by omega
      have hall : nmsOk [] l = true := by have := HA.out; rwa [List.take_length] at this
      have HLL := hid hall
      clear hall hK
      go_wp2
      go_ret
      exact ⟨ret_bool (by rw [HD.out, HLL.out, decide_eq_true (p := 1 ≤ l.length) (by omega), decide_eq_true (p := l.length ≤ 3) (by omega)]; rfl), HK.out⟩

theorem l21Names_any (lo : Nat) (v : Value) (l : List (List UInt8)) (w : World) (hu : StrsAt lo w v l) :
    Calls Tryz.prog 52 #[v] w fun e w' => e = .returned (.bool (difOk l)) ∧ ∃ n, w' = w.drewN n := by
  have HU := hid hu
  obtain ⟨a, cap, b, off, rfl, hl, hcap, ha, hc⟩ := hu
  have hdef : difOk l = (nmsOk [] l && decide (l.length ≤ 3)) := rfl
  have HD := hid hdef
  have HC := hid hc
  have HAD := hid ha
  have hl63 : l.length ≤ 2 ^ 63 - 1 := by have := Nat.le_trans hl bigN_le; unfold maxLen at this; exact this
  clear hdef hc hl ha
  go_enter Tryz.func52, Tryz.ntmps52
  go_wp2
  go_loopg [3] l.length (fun m i wr => ∃ k : Nat, m = l.length - k ∧ k ≤ l.length ∧ i = .int .i64 k ∧ nmsOk [] (l.take k) = true ∧ Drew w wr)
  case atStart => exact ⟨0, rfl, Nat.zero_le _, rfl, rfl, Drew.refl _⟩
  case round =>
    obtain ⟨k, hm, hk, rfl, hasc, hdr⟩ := hrel
    have HM := hid hm
    have HA := hid hasc
    have HDR := hid hdr
    clear hm hasc hdr
    by_cases hlt : k < l.length
    · obtain ⟨rfl, hlo, hbw⟩ := HAD.out (by omega)
      obtain ⟨c0, c1⟩ := HC.out k hlt
      have hc0 := HDR.out.cell c0
      clear c0
      have HT := hid (nmsOk_take k hlt HA.out)
      have HP := hid (fun h => nmsOk_part (l := l) (k + 1) h)
      have hkc : k ≤ cap := by omega
      have hki : (k : Int) ≤ cap := by omega
      have hli : (k : Int) < l.length := by omega
      have HTK := hid ((HU.out.take k hk).kept0 HDR.out.kept)
      cases hv : isName l[k] with
      | false =>
        go_wp2
        go_quiet (first | (go_at_call 53; exact (sName_bs _ _ c1).quiet_of_same) | (go_at_call 75; exact (l21Has_any lo _ (l.take k) (bs l[k]) _ HTK.out).quiet_of_same))
        go_wp2
        go_ret
        exact ⟨ret_bool (by rw [HD.out, HP.out (by rw [HT.out, hv]; simp)]; simp), HDR.out.more _⟩
      | true =>
        have hT : ∀ n, StrsAt lo (wr.drewN n) (.slice (some ⟨b, off, none⟩) k cap) (l.take k) := fun n => HTK.out.kept0 ((Kept.refl [] wr).drewN n)
        have HTT := hid hT
        clear hT
        cases hh : hasN (l.take k) l[k] with
        | true =>
          have HH := hid hh
          go_wp2
          go_quiet (first | (go_at_call 53; exact (sName_bs _ _ c1).quiet_of_same) | (go_at_call 75; exact (l21Has_any lo _ (l.take k) (bs l[k]) _ (HTT.out _)).quiet_of_same))
          go_wp2
          go_ret
          exact ⟨ret_bool (by rw [HD.out, HP.out (by rw [HT.out, hv, HH.out]; simp)]; simp), HDR.out.more _⟩
        | false =>
          have HH := hid hh
          go_wp2
          go_quiet (first | (go_at_call 53; exact (sName_bs _ _ c1).quiet_of_same) | (go_at_call 75; exact (l21Has_any lo _ (l.take k) (bs l[k]) _ (HTT.out _)).quiet_of_same))
          go_wp2
          go_roundg (l.length - (k + 1))
          case measure => have := HM.out; omega
          case rel => exact ⟨k + 1, rfl, by omega, by go_num, by rw [HT.out, hv, HH.out]; rfl, HDR.out.more _⟩
    · obtain rfl : k = l.length := by omega
      have hall : nmsOk [] l = true := by have := HA.out; rwa [List.take_length] at this
      have HLL := hid hall
      clear hall
      go_wp2
      go_ret
      refine ⟨ret_bool ?_, HDR.out⟩
      rw [HD.out, HLL.out, Bool.eq_iff_iff]; simp; try omega
end Go.Proofs.YtahiahboneljaaaGreatDoor
namespace Go.Proofs.YtahiahboneljaaaGreatDoor
open Go.RowKit

/-- A submission as a value. -/
def SubAt (lo : Nat) (w : World) (v : Value) (s : Sb) : Prop :=
  ∃ tv, v = .agg #[.int .i64 s.stage, .string (bs s.user), tv, .string (bs s.text)] ∧ StrsAt lo w tv s.to ∧ s.user.length ≤ bigN ∧ s.text.length ≤ bigN
theorem SubAt.kept {lo : Nat} {w w' : World} {v : Value} {s : Sb} {bs : List Nat} (h : SubAt lo w v s) (k : Kept bs w w') (hb : ∀ b ∈ bs, b < lo ∨ w.heap.size ≤ b) : SubAt lo w' v s := by
  obtain ⟨tv, h1, h2, h3, h4⟩ := h
  exact ⟨tv, h1, h2.kept k hb, h3, h4⟩
theorem SubAt.kept0 {lo : Nat} {w w' : World} {v : Value} {s : Sb} (h : SubAt lo w v s) (k : Kept [] w w') : SubAt lo w' v s := h.kept k (by simp)

theorem empty_bs (l : List UInt8) : (bs l).toList.isEmpty = decide (l = []) := by
  rw [ByteArray.toList_eq, bs_toList]; cases l <;> simp

/-- A slice of strings is a slice, at whatever place. -/
theorem StrsAt.form {lo : Nat} {w : World} {v : Value} {l : List (List UInt8)} (h : StrsAt lo w v l) : ∃ a cap, v = .slice a l.length cap := by
  obtain ⟨a, cap, b, off, hv, _⟩ := h; exact ⟨a, cap, hv⟩

theorem iSubValid_any (lo : Nat) (v : Value) (s : Sb) (w : World) (hu : SubAt lo w v s) :
    Calls Tryz.prog 23 #[v] w fun e w' => e = .returned (.bool (subOk s)) ∧ Kept [] w w' := by
  obtain ⟨tv, rfl, hst, hul, htl⟩ := hu
  obtain ⟨a, cap, rfl⟩ := hst.form
  obtain ⟨stage, user, tos, text⟩ := s
  dsimp only at hst hul htl ⊢
  have K0 := hid ((Kept.refl [] w).alloc (Obj.cells #[.int .i64 stage, .string (bs user), .slice a tos.length cap, .string (bs text)] 25))
  have HB := hid (new_block w (Obj.cells #[.int .i64 stage, .string (bs user), .slice a tos.length cap, .string (bs text)] 25))
  have HS := hid (hst.kept0 K0.out)
  have eu := empty_bs user
  have et := empty_bs text
  have hto : tos.length = 0 ↔ tos = [] := by simp
  have HTO := hid hto
  clear hst hto
  by_cases h1 : stage = 0 ∨ stage = 1 ∨ stage = 6
  · have HD : Hid (subOk ⟨stage, user, tos, text⟩ = ((decide (user = []) && decide (tos = [])) && decide (text = []))) := by
      show _ = _; unfold subOk; rw [if_pos h1]
    rcases h1 with rfl | rfl | rfl
    all_goals
      go_enter Tryz.func23, Tryz.ntmps23
      go_wp2
      all_goals
        go_ret
        exact ⟨ret_bool (by rw [HD.out]; simp [*]), (Kept.refl [] w).alloc _⟩
  have hstep : ∀ (w1 : World), Kept [] (w.alloc (Obj.cells #[.int .i64 stage, .string (bs user), .slice a tos.length cap, .string (bs text)] 25)) w1 →
      w1.cell? ⟨w.heap.size, 0, none⟩ = some (.int .i64 stage) ∧ w1.cell? ⟨w.heap.size, 2, none⟩ = some (.slice a tos.length cap) ∧ w1.cell? ⟨w.heap.size, 3, none⟩ = some (.string (bs text)) ∧
      Kept [] w w1 ∧ StrsAt lo w1 (.slice a tos.length cap) tos := fun w1 hK => by
    have hB := hK.same HB.out (by simp)
    exact ⟨by rw [cell_of_block hB]; rfl, by rw [cell_of_block hB]; rfl, by rw [cell_of_block hB]; rfl, K0.out.trans hK, HS.out.kept0 hK⟩
  have HST := hid hstep
  clear hstep
  by_cases h2 : stage = 2 ∨ stage = 3
  · have HD : Hid (subOk ⟨stage, user, tos, text⟩ = ((isName user && decide (tos = [])) && decide (text = []))) := by
      show _ = _; unfold subOk; rw [if_neg h1, if_pos h2]
    clear h1
    rcases h2 with rfl | rfl
    all_goals
      go_enter Tryz.func23, Tryz.ntmps23
      go_wp2_with fail
      refine (iName_bs user _ hul).mono ?_
      rintro e w1 ⟨rfl, hK⟩
      obtain ⟨hc0, hc2, hc3, hK1, -⟩ := HST.out w1 hK
      have HK1 := hid hK1
      clear hK hK1
      cases hn : isName user with
      | false =>
        go_wp2
        go_ret
        exact ⟨ret_bool (by rw [HD.out, hn]; simp), HK1.out⟩
      | true =>
        go_wp2
        all_goals
          go_ret
          exact ⟨ret_bool (by rw [HD.out, hn]; simp [*]), HK1.out⟩
  by_cases h4 : stage = 4
  · have HD : Hid (subOk ⟨stage, user, tos, text⟩ = ((isName user && rcvOk tos) && decide (text = []))) := by
      show _ = _; unfold subOk; rw [if_neg h1, if_neg h2, if_pos h4]
    clear h1 h2
    subst h4
    go_enter Tryz.func23, Tryz.ntmps23
    go_wp2_with fail
    refine (iName_bs user _ hul).mono ?_
    rintro e w1 ⟨rfl, hK⟩
    obtain ⟨hc0, hc2, hc3, hK1, hS1⟩ := HST.out w1 hK
    have HK1 := hid hK1
    have HS1 := hid hS1
    have HKK := hid hK
    clear hK hK1 hS1
    cases hn : isName user with
    | false =>
      go_wp2
      go_ret
      exact ⟨ret_bool (by rw [HD.out, hn]; simp), HK1.out⟩
    | true =>
      go_wp2_with fail
      refine (receivers_any lo _ tos _ HS1.out).mono ?_
      rintro e w2 ⟨rfl, hK⟩
      obtain ⟨hc0, hc2, hc3, hK1, -⟩ := HST.out w2 (HKK.out.trans hK)
      have HK2 := hid hK1
      clear hK hK1
      cases hr : rcvOk tos with
      | false =>
        go_wp2
        go_ret
        exact ⟨ret_bool (by rw [HD.out, hn, hr]; simp), HK2.out⟩
      | true =>
        go_wp2
        all_goals
          go_ret
          exact ⟨ret_bool (by rw [HD.out, hn, hr]; simp [*]), HK2.out⟩
  by_cases h5 : stage = 5
  · have HD : Hid (subOk ⟨stage, user, tos, text⟩ = ((isName user && rcvOk tos) && decide (text.length ≤ 21))) := by
      show _ = _; unfold subOk; rw [if_neg h1, if_neg h2, if_neg h4, if_pos h5]
    clear h1 h2 h4
    subst h5
    go_enter Tryz.func23, Tryz.ntmps23
    go_wp2_with fail
    refine (iName_bs user _ hul).mono ?_
    rintro e w1 ⟨rfl, hK⟩
    obtain ⟨hc0, hc2, hc3, hK1, hS1⟩ := HST.out w1 hK
    have HK1 := hid hK1
    have HS1 := hid hS1
    have HKK := hid hK
    clear hK hK1 hS1
    cases hn : isName user with
    | false =>
      go_wp2
      go_ret
      exact ⟨ret_bool (by rw [HD.out, hn]; simp), HK1.out⟩
    | true =>
      go_wp2_with fail
      refine (receivers_any lo _ tos _ HS1.out).mono ?_
      rintro e w2 ⟨rfl, hK⟩
      obtain ⟨hc0, hc2, hc3, hK1, -⟩ := HST.out w2 (HKK.out.trans hK)
      have HK2 := hid hK1
      clear hK hK1
      cases hr : rcvOk tos with
      | false =>
        go_wp2
        go_ret
        exact ⟨ret_bool (by rw [HD.out, hn, hr]; simp), HK2.out⟩
      | true =>
        go_wp2
        all_goals
          go_ret
          refine ⟨ret_bool ?_, HK2.out⟩
          rw [HD.out, hn, hr, Bool.eq_iff_iff]; simp; try omega
  · have HD : Hid (subOk ⟨stage, user, tos, text⟩ = false) := by
      show _ = _; unfold subOk; rw [if_neg h1, if_neg h2, if_neg h4, if_neg h5]
    have e0 : ¬ stage = 0 := by omega
    have e1 : ¬ stage = 1 := by omega
    have e6 : ¬ stage = 6 := by omega
    have e2 : ¬ stage = 2 := by omega
    have e3 : ¬ stage = 3 := by omega
    clear h1 h2
    go_enter Tryz.func23, Tryz.ntmps23
    go_wp2
    go_ret
    exact ⟨ret_bool HD.out.symm, K0.out⟩
end Go.Proofs.YtahiahboneljaaaGreatDoor
namespace Go.Proofs.YtahiahboneljaaaGreatDoor
open Go.RowKit

set_option maxHeartbeats 800000 in
theorem sSubValid_any (lo : Nat) (v : Value) (s : Sb) (w : World) (hu : SubAt lo w v s) :
    Calls Tryz.prog 27 #[v] w fun e w' => e = .returned (.bool (subOk s)) ∧ Kept [] w w' := by
  rw [← subOk_same]
  obtain ⟨tv, rfl, hst, hul, htl⟩ := hu
  obtain ⟨a, cap, rfl⟩ := hst.form
  obtain ⟨stage, user, tos, text⟩ := s
  dsimp only at hst hul htl ⊢
  have K0 := hid ((Kept.refl [] w).alloc (Obj.cells #[.int .i64 stage, .string (bs user), .slice a tos.length cap, .string (bs text)] 25))
  have HB := hid (new_block w (Obj.cells #[.int .i64 stage, .string (bs user), .slice a tos.length cap, .string (bs text)] 25))
  have HS := hid (hst.kept0 K0.out)
  have eu := empty_bs user
  have et := empty_bs text
  have HD : Hid (subOk2 ⟨stage, user, tos, text⟩ = (if !(decide (0 ≤ stage) && decide (stage ≤ 6)) || !difOk tos || decide (21 < text.length) then false
      else if ((decide (2 ≤ stage) && decide (stage ≤ 5)) != isName user) || (!(decide (2 ≤ stage) && decide (stage ≤ 5)) && !decide (user = [])) then false
      else if (decide (stage = 4) || decide (stage = 5)) != decide (0 < tos.length) then false
      else decide (stage = 5) || decide (text = []))) := rfl
  clear hst
  cases h1 : (decide ((0 : Int) ≤ stage) && decide (stage ≤ (6 : Int))) with
  | false =>
    rw [h1] at HD
    go_enter Tryz.func27, Tryz.ntmps27
    go_wp2_with (go_at_call 51; refine (l6In_any _ _ _ _).mono ?_; rintro e w' ⟨rfl, rfl⟩)
    go_ret
    exact ⟨ret_bool (by rw [HD.out]; simp), K0.out⟩
  | true =>
    cases h2 : difOk tos with
    | false =>
      rw [h1, h2] at HD
      go_enter Tryz.func27, Tryz.ntmps27
      go_wp2_with fail
      refine (l6In_any _ _ _ _).mono ?_
      rintro e w1 ⟨rfl, rfl⟩
      go_wp2_with fail
      refine (l21Names_any lo _ tos _ HS.out).mono ?_
      rintro e w1 ⟨rfl, nd, rfl⟩
      rw [h2]
      go_wp2
      go_ret
      exact ⟨ret_bool (by rw [HD.out]; simp), K0.out.drewN _⟩
    | true =>
      cases h3 : decide (21 < text.length) with
      | true =>
        rw [h1, h2, h3] at HD
        have h3' : decide ((21 : Int) < text.length) = true := by rw [decide_eq_true_eq] at h3 ⊢; omega
        clear h3
        go_enter Tryz.func27, Tryz.ntmps27
        go_wp2_with fail
        refine (l6In_any _ _ _ _).mono ?_
        rintro e w1 ⟨rfl, rfl⟩
        go_wp2_with fail
        refine (l21Names_any lo _ tos _ HS.out).mono ?_
        rintro e w1 ⟨rfl, nd, rfl⟩
        rw [h2]
        go_wp2
        all_goals
          go_ret
          exact ⟨ret_bool (by rw [HD.out]; simp), K0.out.drewN _⟩
      | false =>
        rw [h1, h2, h3] at HD
        have h3' : decide ((21 : Int) < text.length) = false := by rw [decide_eq_false_iff_not] at h3 ⊢; omega
        clear h3
        go_enter Tryz.func27, Tryz.ntmps27
        go_wp2_with fail
        refine (l6In_any _ _ _ _).mono ?_
        rintro e w1 ⟨rfl, rfl⟩
        go_wp2_with fail
        refine (l21Names_any lo _ tos _ HS.out).mono ?_
        rintro e w1 ⟨rfl, nd, rfl⟩
        rw [h2]
        go_wp2_with fail
        refine (l6In_any _ _ _ _).mono ?_
        rintro e w2 ⟨rfl, rfl⟩
        cases h4 : (decide ((2 : Int) ≤ stage) && decide (stage ≤ (5 : Int))) with
        | false =>
          rw [h4] at HD
          go_wp2_with fail
          refine (sName_bs user _ hul).mono ?_
          rintro e w3 ⟨rfl, rfl⟩
          cases h5 : isName user with
          | true =>
            rw [h5] at HD
            go_wp2
            all_goals
              go_ret
              exact ⟨ret_bool (by rw [HD.out]; simp), K0.out.drewN _⟩
          | false =>
            rw [h5] at HD
            go_wp2
            all_goals
              go_ret
              try subst_vars
              refine ⟨ret_bool ?_, K0.out.drewN _⟩
              rw [HD.out]
              clear HD eu et HB K0 HS hul htl h1 h2 h3' h4 h5
              first
                | (simp_all; done)
                | (by_cases e5 : stage = 5 <;> by_cases e6 : 0 < tos.length <;> simp_all)
        | true =>
          rw [h4] at HD
          go_wp2_with fail
          refine (sName_bs user _ hul).mono ?_
          rintro e w3 ⟨rfl, rfl⟩
          cases h5 : isName user with
          | false =>
            rw [h5] at HD
            go_wp2
            all_goals
              go_ret
              exact ⟨ret_bool (by rw [HD.out]; simp), K0.out.drewN _⟩
          | true =>
            rw [h5] at HD
            go_wp2
            all_goals
              go_ret
              try subst_vars
              refine ⟨ret_bool ?_, K0.out.drewN _⟩
              rw [HD.out]
              clear HD eu et HB K0 HS hul htl h1 h2 h3' h4 h5
              first
                | (simp_all; done)
                | (by_cases e5 : stage = 5 <;> by_cases e6 : 0 < tos.length <;> simp_all)
end Go.Proofs.YtahiahboneljaaaGreatDoor
namespace Go.Proofs.YtahiahboneljaaaGreatDoor
open Go.RowKit

theorem prefix_take (s p : List UInt8) : Lib.hasPrefix s p = decide (s.take p.length = p) := by
  unfold Lib.hasPrefix
  rw [Bool.eq_iff_iff, List.isPrefixOf_iff_prefix, List.prefix_iff_eq_take, decide_eq_true_eq]
  exact eq_comm

theorem bs_size' (l : List UInt8) : (bs l).size = l.length := by show l.toArray.size = _; simp

theorem pathOf_user {l u d : List UInt8} (h : pathOf l = some (u, d)) (hl : l ≠ [60, 62]) : u ≠ [] := by
  rw [path_same] at h
  unfold pathText at h
  rw [if_neg hl] at h
  split at h
  · cases h
  · unfold addrText at h
    split at h
    · next u' d' _ =>
      split at h
      · next hg =>
        injection h with h
        injection h with h1 h2
        subst h1
        intro e
        subst e
        rw [isName_nil] at hg
        simp at hg
      · cases h
    · cases h
theorem pathP_none {beg line : List UInt8} (h : line.take beg.length ≠ beg) : pathP beg line = none := by unfold pathP; rw [if_neg h]
theorem pathP_empty {beg line : List UInt8} (h : line.drop beg.length = [60, 62]) : pathP beg line = none := by
  unfold pathP; rw [h]
  split
  · show Option.bind (some ([], [])) _ = none; rfl
  · rfl
theorem pathP_rest {beg line : List UInt8} (h : line.take beg.length = beg) (h2 : line.drop beg.length ≠ [60, 62]) : pathP beg line = pathOf (line.drop beg.length) := by
  unfold pathP; rw [if_pos h]
  cases hp : pathOf (line.drop beg.length) with
  | none => rfl
  | some x => show (if x.1 = [] then _ else _) = _; rw [if_neg (pathOf_user (u := x.1) (d := x.2) hp h2)]

theorem pathBehind_any (s beg : ByteArray) (w : World) (hs : s.size ≤ bigN) :
    Calls Tryz.prog 73 #[.string s, .string beg] w fun e w' => e = .returned (pathRes (pathP beg.data.toList s.data.toList)) ∧ Kept [] w w' := by
  have HR := hid (new_block w (Obj.cells #[.string ⟨#[]⟩, .string ⟨#[]⟩] 91))
  have K0 := hid ((Kept.refl [] w).alloc (Obj.cells #[.string ⟨#[]⟩, .string ⟨#[]⟩] 91))
  by_cases hp : s.data.toList.take beg.data.toList.length = beg.data.toList
  · have hpre : Lib.hasPrefix s.data.toList beg.data.toList = true := by rw [prefix_take, decide_eq_true_eq]; exact hp
    have htr : Lib.trimPrefix s.data.toList beg.data.toList = s.data.toList.drop beg.data.toList.length := by unfold Lib.trimPrefix; rw [if_pos hpre]
    have hrl : (s.data.toList.drop beg.data.toList.length).length ≤ bigN := by simp; omega
    have hr1 : s.data.toList.drop beg.data.toList.length = [60, 62] → pathP beg.data.toList s.data.toList = none := pathP_empty
    have hr2 : s.data.toList.drop beg.data.toList.length ≠ [60, 62] → pathP beg.data.toList s.data.toList = pathOf (s.data.toList.drop beg.data.toList.length) := pathP_rest hp
    generalize s.data.toList.drop beg.data.toList.length = r at htr hr1 hr2 hrl
    generalize pathP beg.data.toList s.data.toList = res at hr1 hr2
    have HT := hid htr
    have HPR := hid hpre
    clear hp hpre htr
    by_cases h2 : r = [60, 62]
    · have h2' : ((bs r).toList == [60, 62]) = true := by rw [str_eq, bs_toList, h2]; rfl
      have HR2 := hid (hr1 h2)
      clear hr1 hr2 h2
      go_enter Tryz.func73, Tryz.ntmps73
      go_wp2_with fail
      refine (Tryz.strings_CutPrefix s beg _).mono ?_
      rintro e w1 ⟨rfl, rfl⟩
      rw [HT.out, HPR.out, show (⟨r.toArray⟩ : ByteArray) = bs r from rfl]
      go_wp2
      refine bodyPost_ret (v := .tuple #[.agg #[.string ⟨#[]⟩, .string ⟨#[]⟩], .bool false]) (by simp [results, Tryz.results73, go_sem]) rfl ⟨pathRes_none HR2.out, ?_⟩
      (repeat' with_reducible first | exact K0.out | refine Kept.alloc ?_ _ | refine Kept.drewN ?_ _ | refine Kept.setCell ?_ _ _ (by simp))
    · have h2' : ((bs r).toList == [60, 62]) = false := by rw [str_eq, bs_toList]; simpa using h2
      have HR2 := hid (hr2 h2)
      clear hr1 hr2 h2
      go_enter Tryz.func73, Tryz.ntmps73
      go_wp2_with fail
      refine (Tryz.strings_CutPrefix s beg _).mono ?_
      rintro e w1 ⟨rfl, rfl⟩
      rw [HT.out, HPR.out, show (⟨r.toArray⟩ : ByteArray) = bs r from rfl]
      go_wp2_with fail
      refine (iPathParse_any (bs r) _ (by rw [bs_size']; exact hrl)).mono ?_
      rintro e w1 ⟨rfl, hK⟩
      rw [bs_toList, ← HR2.out]
      have hR1 := hK.same HR.out (by simp)
      have hr0 := cell_of_block hR1 0
      have hr1 := cell_of_block hR1 1
      have hf0 := frozen_of_block hR1 0
      have hf1 := frozen_of_block hR1 1
      have hsz0 := lt_of_block hR1
      simp at hr0 hr1
      have HK2 := hid (K0.out.trans hK)
      clear hK hR1 HR2
      cases res with
      | none =>
        rw [show pathRes none = .tuple #[.agg #[.string ⟨#[]⟩, .string ⟨#[]⟩], .bool false] from rfl]
        go_wp2
        refine bodyPost_ret (v := .tuple #[.agg #[.string ⟨#[]⟩, .string ⟨#[]⟩], .bool false]) (by simp [results, Tryz.results73, go_sem, hr0, hr1]) rfl ⟨rfl, ?_⟩
        (repeat' with_reducible first | exact HK2.out | refine Kept.alloc ?_ _ | refine Kept.drewN ?_ _ | refine Kept.setCell ?_ _ _ (by simp))
      | some x =>
        obtain ⟨u, d⟩ := x
        rw [show pathRes (some (u, d)) = .tuple #[.agg #[.string (bs u), .string (bs d)], .bool true] from rfl]
        go_wp2
        refine bodyPost_ret (v := .tuple #[.agg #[.string (bs u), .string (bs d)], .bool true]) (by simp [results, Tryz.results73, go_sem, hr0, hr1]) rfl ⟨rfl, ?_⟩
        (repeat' with_reducible first | exact HK2.out | refine Kept.alloc ?_ _ | refine Kept.drewN ?_ _ | refine Kept.setCell ?_ _ _ (by simp))
  · have hpre : Lib.hasPrefix s.data.toList beg.data.toList = false := by rw [prefix_take, decide_eq_false_iff_not]; exact hp
    have HR2 := hid (pathP_none hp)
    have HPR := hid hpre
    clear hp hpre
    go_enter Tryz.func73, Tryz.ntmps73
    go_wp2_with fail
    refine (Tryz.strings_CutPrefix s beg _).mono ?_
    rintro e w1 ⟨rfl, rfl⟩
    rw [HPR.out]
    go_wp2
    refine bodyPost_ret (v := .tuple #[.agg #[.string ⟨#[]⟩, .string ⟨#[]⟩], .bool false]) (by simp [results, Tryz.results73, go_sem]) rfl ⟨pathRes_none HR2.out, ?_⟩
    (repeat' with_reducible first | exact K0.out | refine Kept.alloc ?_ _ | refine Kept.drewN ?_ _ | refine Kept.setCell ?_ _ _ (by simp))

theorem l21Path_any (s beg : ByteArray) (w : World) (hs : s.size ≤ bigN) (hb : beg.size ≤ bigN) :
    Calls Tryz.prog 77 #[.string s, .string beg] w fun e w' => e = .returned (pathRes (pathP beg.data.toList s.data.toList)) ∧ Kept [] w w' := by
  have HR := hid (new_block w (Obj.cells #[.string ⟨#[]⟩, .string ⟨#[]⟩] 91))
  have K0 := hid ((Kept.refl [] w).alloc (Obj.cells #[.string ⟨#[]⟩, .string ⟨#[]⟩] 91))
  have hs' := Nat.le_trans hs bigN_le
  have hb' := Nat.le_trans hb bigN_le
  unfold maxLen at hs' hb'
  by_cases hl : s.size < beg.size
  · have hl' : (s.size : Int) < beg.size := by omega
    have HR2 := hid (pathP_none (line := s.data.toList) (beg := beg.data.toList) (by
      intro e; have := congrArg List.length e; simp at this; omega))
    go_enter Tryz.func77, Tryz.ntmps77
    go_wp2
    refine bodyPost_ret (v := .tuple #[.agg #[.string ⟨#[]⟩, .string ⟨#[]⟩], .bool false]) (by simp [results, Tryz.results77, go_sem]) rfl ⟨pathRes_none HR2.out, ?_⟩
    (repeat' with_reducible first | exact K0.out | refine Kept.alloc ?_ _ | refine Kept.drewN ?_ _ | refine Kept.setCell ?_ _ _ (by simp))
  · have hl' : ¬ (s.size : Int) < beg.size := by omega
    have hl2 : beg.size ≤ s.size := by omega
    have hx : ((s.extract 0 beg.size).toList == beg.toList) = decide (s.data.toList.take beg.data.toList.length = beg.data.toList) := by
      rw [← prefix_take, ← Lib.hasPrefix_raw]
      simp [hl2]
    by_cases hp : s.data.toList.take beg.data.toList.length = beg.data.toList
    · rw [decide_eq_true hp] at hx
      have hrl : (s.data.toList.drop beg.data.toList.length).length ≤ bigN := by simp; omega
      have hr1 : s.data.toList.drop beg.data.toList.length = [60, 62] → pathP beg.data.toList s.data.toList = none := pathP_empty
      have hr2 : s.data.toList.drop beg.data.toList.length ≠ [60, 62] → pathP beg.data.toList s.data.toList = pathOf (s.data.toList.drop beg.data.toList.length) := pathP_rest hp
      have hex : s.extract beg.size s.size = bs (s.data.toList.drop beg.data.toList.length) := by
        rw [extract_bs]; congr 1; rw [List.take_of_length_le (by simp)]; simp
      generalize s.data.toList.drop beg.data.toList.length = r at hr1 hr2 hrl hex
      generalize pathP beg.data.toList s.data.toList = res at hr1 hr2
      clear hp
      have HX := hid hex
      have H1 := hid hr1
      have H2 := hid hr2
      have HL := hid hrl
      clear hex hr1 hr2 hrl
      go_enter Tryz.func77, Tryz.ntmps77
      go_wp2_with fail
      rw [HX.out]
      refine (sPathParse_any (bs r) _ (by rw [bs_size']; exact HL.out)).mono ?_
      rintro e w1 ⟨rfl, hK⟩
      rw [bs_toList]
      have hR1 := hK.same HR.out (by simp)
      have hr0 := cell_of_block hR1 0
      have hr1 := cell_of_block hR1 1
      have hf0 := frozen_of_block hR1 0
      have hf1 := frozen_of_block hR1 1
      have hsz0 := lt_of_block hR1
      simp at hr0 hr1
      have HK2 := hid (K0.out.trans hK)
      clear hK hR1
      cases hpo : pathOf r with
      | none =>
        have hres : res = none := by
          by_cases e : r = [60, 62]
          · exact H1.out e
          · rw [H2.out e, hpo]
        subst hres
        clear H1 H2 HX HL hpo
        rw [show pathRes none = .tuple #[.agg #[.string ⟨#[]⟩, .string ⟨#[]⟩], .bool false] from rfl]
        go_wp2
        go_region
        go_wp2
        refine bodyPost_ret (v := .tuple #[.agg #[.string ⟨#[]⟩, .string ⟨#[]⟩], .bool false]) (by simp [results, Tryz.results77, go_sem, hr0, hr1, hsz0]) rfl ⟨rfl, ?_⟩
        (repeat' with_reducible first | exact HK2.out | refine Kept.alloc ?_ _ | refine Kept.drewN ?_ _ | refine Kept.drew ?_ | refine Kept.setCell ?_ _ _ (by simp))
      | some x =>
        obtain ⟨u, d⟩ := x
        rw [show pathRes (some (u, d)) = .tuple #[.agg #[.string (bs u), .string (bs d)], .bool true] from rfl]
        by_cases hu : u = []
        · have hr : r = [60, 62] := Classical.byContradiction fun e => pathOf_user hpo e hu
          have hres : res = none := H1.out hr
          have hd : d = [] := by
            rw [hr] at hpo
            have : some (([] : List UInt8), ([] : List UInt8)) = some (u, d) := hpo
            injection this with this; injection this with _ h2; exact h2.symm
          subst hres hu hd
          clear H1 H2 HX HL hpo hr
          have hu' : (bs ([] : List UInt8)).toList.isEmpty = true := by rw [empty_bs]; rfl
          go_wp2
          go_region
          go_wp2
          refine bodyPost_ret (v := .tuple #[.agg #[.string ⟨#[]⟩, .string ⟨#[]⟩], .bool false]) (by simp [results, Tryz.results77, go_sem, hr0, hr1, hsz0]; rfl) rfl ⟨rfl, ?_⟩
          (repeat' with_reducible first | exact HK2.out | refine Kept.alloc ?_ _ | refine Kept.drewN ?_ _ | refine Kept.drew ?_ | refine Kept.setCell ?_ _ _ (by simp))
        · have hr : r ≠ [60, 62] := by
            intro e; rw [e] at hpo
            have : some (([] : List UInt8), ([] : List UInt8)) = some (u, d) := hpo
            injection this with this; injection this with h1 _; exact hu h1.symm
          have hres : res = some (u, d) := by rw [H2.out hr, hpo]
          subst hres
          have hu' : (bs u).toList.isEmpty = false := by rw [empty_bs]; simpa using hu
          clear H1 H2 HX HL hpo hr hu
          go_wp2
          go_region
          go_wp2
          refine bodyPost_ret (v := .tuple #[.agg #[.string (bs u), .string (bs d)], .bool true]) (by simp [results, Tryz.results77, go_sem, hr0, hr1, hsz0]) rfl ⟨rfl, ?_⟩
          (repeat' with_reducible first | exact HK2.out | refine Kept.alloc ?_ _ | refine Kept.drewN ?_ _ | refine Kept.drew ?_ | refine Kept.setCell ?_ _ _ (by simp))
    · rw [decide_eq_false hp] at hx
      have HR2 := hid (pathP_none hp)
      clear hp
      go_enter Tryz.func77, Tryz.ntmps77
      go_wp2
      refine bodyPost_ret (v := .tuple #[.agg #[.string ⟨#[]⟩, .string ⟨#[]⟩], .bool false]) (by simp [results, Tryz.results77, go_sem]) rfl ⟨pathRes_none HR2.out, ?_⟩
      (repeat' with_reducible first | exact K0.out | refine Kept.alloc ?_ _ | refine Kept.drewN ?_ _ | refine Kept.setCell ?_ _ _ (by simp))
end Go.Proofs.YtahiahboneljaaaGreatDoor
