/- The walks of users (both sides). -/
import Derived.Test.YtahiahboneljaaaGreatDoorKWa
import Derived.Test.YtahiahboneljaaaGreatDoorKP
namespace Go.Proofs.YtahiahboneljaaaGreatDoor
open Go.RowKit

theorem sName_bs (l : List UInt8) (w : World) (hl : l.length ≤ bigN) :
    Calls Tryz.prog 53 #[.string (bs l)] w fun e w' => e = .returned (.bool (isName l)) ∧ w' = w := by
  have := sNameValid_any (bs l) w (by rw [bs_size]; exact Nat.le_trans hl bigN_le)
  rwa [bs_toList] at this
theorem iName_bs (l : List UInt8) (w : World) (hl : l.length ≤ bigN) :
    Calls Tryz.prog 32 #[.string (bs l)] w fun e w' => e = .returned (.bool (isName l)) ∧ Kept [] w w' := by
  have := iNameValid_any (bs l) w (by rw [bs_size]; exact Nat.le_trans hl bigN_le)
  rwa [bs_toList] at this

/-- A user as a value. -/
def usrV (u : Usr) : Value := .agg #[.string (bs u.name), .string (bs u.pass), .int .i64 u.quota]

/-- A slice value that holds users. -/
def UsersAt (lo : Nat) (w : World) (v : Value) (us : List Usr) : Prop :=
  ∃ a cap b off, v = .slice a us.length cap ∧ us.length ≤ bigN ∧ (0 < us.length → a = some ⟨b, off, none⟩ ∧ lo ≤ b ∧ b < w.heap.size) ∧
    ∀ j (h : j < us.length), w.cell? ⟨b, off + j * 3, none⟩ = some (.string (bs us[j].name)) ∧ w.cell? ⟨b, off + j * 3 + 1, none⟩ = some (.string (bs us[j].pass)) ∧
      w.cell? ⟨b, off + j * 3 + 2, none⟩ = some (.int .i64 us[j].quota) ∧ us[j].name.length ≤ bigN ∧ us[j].pass.length ≤ bigN

theorem UsersAt.kept {lo : Nat} {w w' : World} {v : Value} {us : List Usr} {bs : List Nat} (h : UsersAt lo w v us) (k : Kept bs w w') (hb : ∀ b ∈ bs, b < lo ∨ w.heap.size ≤ b) : UsersAt lo w' v us := by
  obtain ⟨a, cap, b, off, hv, hl, ha, hc⟩ := h
  refine ⟨a, cap, b, off, hv, hl, fun h0 => ⟨(ha h0).1, (ha h0).2.1, Nat.lt_of_lt_of_le (ha h0).2.2 k.size⟩, fun j hj => ?_⟩
  have h1 := (ha (by omega)).2
  have hn : b ∉ bs := fun e => by rcases hb b e with h2 | h2 <;> omega
  obtain ⟨c0, c1, c2, c3⟩ := hc j hj
  exact ⟨k.cell_some c0 hn, k.cell_some c1 hn, k.cell_some c2 hn, c3⟩

theorem UsersAt.kept0 {lo : Nat} {w w' : World} {v : Value} {us : List Usr} (h : UsersAt lo w v us) (k : Kept [] w w') : UsersAt lo w' v us := h.kept k (by simp)

theorem userValid_any (u : Usr) (w : World) (h1 : u.name.length ≤ bigN) (h2 : u.pass.length ≤ bigN) :
    Calls Tryz.prog 41 #[.agg #[.string (bs u.name), .string (bs u.pass), .int .i64 u.quota]] w fun e w' => e = .returned (.bool (usrOk u)) ∧ Kept [] w w' := by
  have hdef : usrOk u = ((((isName u.name && !(u.name == anyoneL)) && isName u.pass) && decide (0 ≤ u.quota)) && decide (u.quota ≤ 200)) := rfl
  have HD := hid hdef
  clear hdef
  have HB := hid (new_block w (Obj.cells #[.string (bs u.name), .string (bs u.pass), .int .i64 u.quota] 35))
  have K0 := hid ((Kept.refl [] w).alloc (Obj.cells #[.string (bs u.name), .string (bs u.pass), .int .i64 u.quota] 35))
  cases hn : isName u.name with
  | false =>
    go_enter Tryz.func41, Tryz.ntmps41
    go_wp2_with fail
    refine (iName_bs u.name _ h1).mono ?_
    rintro e w1 ⟨rfl, hK⟩
    have HK := hid hK
    clear hK
    go_wp2
    go_ret
    exact ⟨ret_bool (by rw [HD.out, hn]; simp), K0.out.trans HK.out⟩
  | true =>
    cases ha : (u.name == anyoneL) with
    | true =>
      have ha' : ((bs u.name).toList == [97, 110, 121, 111, 110, 101]) = true := by rw [str_eq, bs_toList]; simpa [anyoneL] using ha
      go_enter Tryz.func41, Tryz.ntmps41
      go_wp2_with fail
      refine (iName_bs u.name _ h1).mono ?_
      rintro e w1 ⟨rfl, hK⟩
      have HK := hid (K0.out.trans hK)
      have hB := hK.same HB.out (by simp)
      have hc0 := cell_of_block hB 0
      have hc1 := cell_of_block hB 1
      have hc2 := cell_of_block hB 2
      simp at hc0 hc1 hc2
      have HA := hid ha
      clear hK hB ha
      go_wp2
      go_ret
      exact ⟨ret_bool (by rw [HD.out, hn, HA.out]; simp), HK.out⟩
    | false =>
      have ha' : ((bs u.name).toList != [97, 110, 121, 111, 110, 101]) = true := by rw [bne, str_eq, bs_toList]; simpa [anyoneL] using ha
      have ha2 : ((bs u.name).toList == [97, 110, 121, 111, 110, 101]) = false := by rw [str_eq, bs_toList]; simpa [anyoneL] using ha
      go_enter Tryz.func41, Tryz.ntmps41
      go_wp2_with fail
      refine (iName_bs u.name _ h1).mono ?_
      rintro e w1 ⟨rfl, hK⟩
      have HK := hid (K0.out.trans hK)
      have hB := hK.same HB.out (by simp)
      have hc0 := cell_of_block hB 0
      have hc1 := cell_of_block hB 1
      have hc2 := cell_of_block hB 2
      simp at hc0 hc1 hc2
      have HA := hid ha
      have HB1 := hid hB
      clear hK hB ha
      go_wp2_with fail
      refine (iName_bs u.pass _ h2).mono ?_
      rintro e w2 ⟨rfl, hK⟩
      have HK2 := hid (HK.out.trans hK)
      have hB := hK.same HB1.out (by simp)
      have hc2 := cell_of_block hB 2
      simp at hc2
      clear hK hB hc0 hc1
      cases hp : isName u.pass with
      | false =>
        go_wp2
        go_ret
        exact ⟨ret_bool (by rw [HD.out, hn, HA.out, hp]; simp), HK2.out⟩
      | true =>
        by_cases q0 : (0 : Int) ≤ u.quota
        · have q0' : decide ((0 : Int) ≤ u.quota) = true := by simpa using q0
          have HP := hid hp
          clear hp
          go_wp2
          all_goals
            go_ret
            exact ⟨ret_bool (by rw [HD.out, hn, HA.out, HP.out, q0']; simp), HK2.out⟩
        · have q0' : decide ((0 : Int) ≤ u.quota) = false := by simpa using q0
          have HP := hid hp
          clear hp
          go_wp2
          go_ret
          exact ⟨ret_bool (by rw [HD.out, hn, HA.out, HP.out, q0']; simp), HK2.out⟩

theorem iUsersValid_any (lo : Nat) (v : Value) (us : List Usr) (w : World) (hu : UsersAt lo w v us) :
    Calls Tryz.prog 24 #[v] w fun e w' => e = .returned (.bool (usersOk us)) ∧ Kept [] w w' := by
  have HU := hid hu
  obtain ⟨a, cap, b, off, rfl, hl, ha, hc⟩ := hu
  have hdef : usersOk us = ((decide (1 ≤ us.length) && decide (us.length ≤ 4)) && ascOk [] us) := rfl
  have HD := hid hdef
  have HC := hid hc
  clear hdef hc
  by_cases h1 : us.length < 1
  · have h1' : (us.length : Int) < 1 := by omega
    clear ha
    go_enter Tryz.func24, Tryz.ntmps24
    go_wp2
    go_ret
    exact ⟨ret_bool (by rw [HD.out, decide_eq_false (by omega)]; simp), Kept.refl _ _⟩
  by_cases h4 : 4 < us.length
  · have h1' : ¬ (us.length : Int) < 1 := by omega
    have h4' : (4 : Int) < us.length := by omega
    clear ha
    go_enter Tryz.func24, Tryz.ntmps24
    go_wp2
    go_ret
    exact ⟨ret_bool (by rw [HD.out, decide_eq_false (p := us.length ≤ 4) (by omega)]; simp), Kept.refl _ _⟩
  have h1' : ¬ (us.length : Int) < 1 := by omega
  have h4' : ¬ (4 : Int) < us.length := by omega
  obtain ⟨rfl, hlo, hbw⟩ := ha (by omega)
  clear ha
  go_enter Tryz.func24, Tryz.ntmps24
  go_wp2
  go_loopg [3, 16] us.length (fun m bf i wr => ∃ k : Nat, m = us.length - k ∧ k ≤ us.length ∧ i = .int .i64 k ∧ bf = .string (bs (lastN [] (us.take k))) ∧ ascOk [] (us.take k) = true ∧ Kept [] w wr)
  case atStart => exact ⟨0, rfl, Nat.zero_le _, rfl, rfl, rfl, Kept.refl _ _⟩
  case round =>
    obtain ⟨k, hm, hk, rfl, rfl, hasc, hK⟩ := hrel
    have HM := hid hm
    have HK := hid hK
    have HA := hid hasc
    have hbr : b < wr.heap.size := Nat.lt_of_lt_of_le hbw hK.size
    clear hm hasc
    by_cases hlt : k < us.length
    · obtain ⟨c0, c1, c2, c3, c4⟩ := HC.out k hlt
      have hc0 := hK.cell_some c0 (by simp)
      have hc1 := hK.cell_some c1 (by simp)
      have hc2 := hK.cell_some c2 (by simp)
      have HT := hid (ascOk_take (p := []) k hlt HA.out)
      have HP := hid (fun h => ascOk_part (us := us) (p := []) (k + 1) h)
      have HB := hid (new_block wr (Obj.cells #[.string (bs us[k].name), .string (bs us[k].pass), .int .i64 us[k].quota] 35))
      clear hK c0 c1 c2
      go_wp2_with fail
      refine (userValid_any us[k] _ c3 c4).mono ?_
      rintro e w1 ⟨rfl, hK⟩
      have hB := hK.same HB.out (by simp)
      have hd0 := cell_of_block hB 0
      have hd1 := cell_of_block hB 1
      have hd2 := cell_of_block hB 2
      simp at hd0 hd1 hd2
      have HK1 := hid ((HK.out.alloc _).trans hK)
      clear hK hB
      cases hv : usrOk us[k] with
      | false =>
        have HV := hid hv
        clear hv
        go_wp2
        go_ret
        exact ⟨ret_bool (by rw [HD.out, HP.out (by rw [HT.out, HV.out]; simp)]; simp), HK1.out⟩
      | true =>
        have HV := hid hv
        clear hv
        cases hlss : Op.bytesLess (lastN [] (us.take k)) us[k].name with
        | false =>
          have ht : (Op.bytesLess (bs us[k].name).toList (bs (lastN [] (us.take k))).toList || (bs us[k].name).toList == (bs (lastN [] (us.take k))).toList) = true := by
            rw [blt_tri, ByteArray.toList_eq, ByteArray.toList_eq, bs_toList, bs_toList, hlss]; rfl
          have HL := hid hlss
          clear hlss
          go_wp2
          all_goals (go_ret; exact ⟨ret_bool (by rw [HD.out, HP.out (by rw [HT.out, HV.out, HL.out]; simp)]; simp), HK1.out⟩)
        | true =>
          have ht : (Op.bytesLess (bs us[k].name).toList (bs (lastN [] (us.take k))).toList || (bs us[k].name).toList == (bs (lastN [] (us.take k))).toList) = false := by
            rw [blt_tri, ByteArray.toList_eq, ByteArray.toList_eq, bs_toList, bs_toList, hlss]; rfl
          have HL := hid hlss
          clear hlss
          go_wp2
          go_roundg (us.length - (k + 1))
          case measure => have := HM.out; omega
          case rel => exact ⟨k + 1, rfl, by omega, by go_num, by rw [List.take_succ_eq_append_getElem hlt, lastN_snoc], by rw [HT.out, HV.out, HL.out]; rfl, HK1.out⟩
    · obtain rfl : k = us.length := by omega
      have hall : ascOk [] us = true := by have := HA.out; rwa [List.take_length] at this
      have HL := hid hall
      clear hall hK
      go_wp2
      go_ret
      exact ⟨ret_bool (by rw [HD.out, HL.out, decide_eq_true (p := 1 ≤ us.length) (by omega), decide_eq_true (p := us.length ≤ 4) (by omega)]; rfl), HK.out⟩
end Go.Proofs.YtahiahboneljaaaGreatDoor
namespace Go.Proofs.YtahiahboneljaaaGreatDoor
open Go.RowKit

set_option maxRecDepth 100000 in
set_option maxHeartbeats 800000 in
theorem sUsersValid_any (lo : Nat) (v : Value) (us : List Usr) (w : World) (hu : UsersAt lo w v us) :
    Calls Tryz.prog 28 #[v] w fun e w' => e = .returned (.bool (usersOk us)) ∧ Kept [] w w' := by
  have HU := hid hu
  obtain ⟨a, cap, b, off, rfl, hl, ha, hc⟩ := hu
  have hdef : usersOk us = ((decide (1 ≤ us.length) && decide (us.length ≤ 4)) && ascOk [] us) := rfl
  have HD := hid hdef
  have HC := hid hc
  have hl63 : us.length ≤ 2 ^ 63 - 1 := by have := Nat.le_trans hl bigN_le; unfold maxLen at this; exact this
  have HAD := hid ha
  clear hdef hc ha hl
  go_enter Tryz.func28, Tryz.ntmps28
  go_wp2
  go_loopg [3] us.length (fun m i wr => ∃ k : Nat, m = us.length - k ∧ k ≤ us.length ∧ i = .int .i64 k ∧ ascOk [] (us.take k) = true ∧ Kept [] w wr)
  case atStart => exact ⟨0, rfl, Nat.zero_le _, rfl, rfl, Kept.refl _ _⟩
  case round =>
    obtain ⟨k, hm, hk, rfl, hasc, hK⟩ := hrel
    have HM := hid hm
    have HK := hid hK
    have HA := hid hasc
    clear hm hasc
    by_cases hlt : k < us.length
    · obtain ⟨rfl, hlo, hbw⟩ := HAD.out (by omega)
      have hbr : b < wr.heap.size := Nat.lt_of_lt_of_le hbw hK.size
      obtain ⟨c0, c1, c2, c3, c4⟩ := HC.out k hlt
      have hc0 := hK.cell_some c0 (by simp)
      have hc1 := hK.cell_some c1 (by simp)
      have hc2 := hK.cell_some c2 (by simp)
      have HT := hid (ascOk_take (p := []) k hlt HA.out)
      have HP := hid (fun h => ascOk_part (us := us) (p := []) (k + 1) h)
      have hUd : usrOk us[k] = ((((isName us[k].name && !(us[k].name == anyoneL)) && isName us[k].pass) && decide (0 ≤ us[k].quota)) && decide (us[k].quota ≤ 200)) := rfl
      have HUD := hid hUd
      clear hUd c0 c1 c2
      cases hn : isName us[k].name with
      | false =>
        go_wp2
        go_quiet (first | (go_at_call 53; exact (sName_bs _ _ (by first | exact c3 | exact c4)).quiet_of_same) | (go_at_call 51; exact (l6In_any _ _ _ _).quiet_of_same))
        go_wp2
        go_ret
        exact ⟨ret_bool (by rw [HD.out, HP.out (by rw [HT.out, HUD.out, hn]; simp)]; simp), by (repeat' with_reducible first | exact HK.out | refine Kept.alloc ?_ _ | refine Kept.drewN ?_ _)⟩
      | true =>
        cases ha : (us[k].name == anyoneL) with
        | true =>
          have ha' : ((bs us[k].name).toList == [97, 110, 121, 111, 110, 101]) = true := by rw [str_eq, bs_toList]; simpa [anyoneL] using ha
          have HAA := hid ha
          clear ha
          go_wp2
          go_quiet (first | (go_at_call 53; exact (sName_bs _ _ (by first | exact c3 | exact c4)).quiet_of_same) | (go_at_call 51; exact (l6In_any _ _ _ _).quiet_of_same))
          go_wp2
          go_ret
          exact ⟨ret_bool (by rw [HD.out, HP.out (by rw [HT.out, HUD.out, hn, HAA.out]; simp)]; simp), by (repeat' with_reducible first | exact HK.out | refine Kept.alloc ?_ _ | refine Kept.drewN ?_ _)⟩
        | false =>
          have ha' : ((bs us[k].name).toList == [97, 110, 121, 111, 110, 101]) = false := by rw [str_eq, bs_toList]; simpa [anyoneL] using ha
          have HAA := hid ha
          clear ha
          cases hp : isName us[k].pass with
          | false =>
            go_wp2
            go_quiet (first | (go_at_call 53; exact (sName_bs _ _ (by first | exact c3 | exact c4)).quiet_of_same) | (go_at_call 51; exact (l6In_any _ _ _ _).quiet_of_same))
            go_wp2
            go_ret
            exact ⟨ret_bool (by rw [HD.out, HP.out (by rw [HT.out, HUD.out, hn, HAA.out, hp]; simp)]; simp), by (repeat' with_reducible first | exact HK.out | refine Kept.alloc ?_ _ | refine Kept.drewN ?_ _)⟩
          | true =>
            cases hq : (decide ((0 : Int) ≤ us[k].quota) && decide (us[k].quota ≤ (200 : Int))) with
            | false =>
              have hu0 : usrOk us[k] = false := by rw [HUD.out, hn, HAA.out, hp, Bool.and_assoc, hq]; rfl
              have HU0 := hid hu0
              clear hu0
              go_wp2
              go_quiet (first | (go_at_call 53; exact (sName_bs _ _ (by first | exact c3 | exact c4)).quiet_of_same) | (go_at_call 51; exact (l6In_any _ _ _ _).quiet_of_same))
              go_wp2
              go_ret
              exact ⟨ret_bool (by rw [HD.out, HP.out (by rw [HT.out, HU0.out]; simp)]; simp), by (repeat' with_reducible first | exact HK.out | refine Kept.alloc ?_ _ | refine Kept.drewN ?_ _)⟩
            | true =>
              have hu1 : usrOk us[k] = true := by rw [HUD.out, hn, HAA.out, hp, Bool.and_assoc, hq]; rfl
              have HU1 := hid hu1
              clear hu1
              by_cases h0 : k = 0
              · subst h0
                have hlss : Op.bytesLess (lastN [] (us.take 0)) us[0].name = true := by
                  rw [show lastN [] (us.take 0) = [] from rfl]
                  have := (isName_len hn).1
                  cases hx : us[0].name with
                  | nil => rw [hx] at this; simp at this
                  | cons _ _ => rfl
                have HL := hid hlss
                clear hlss
                simp only [Nat.zero_mul, Nat.add_zero] at hc0 hc1 hc2
                go_wp2
                go_quiet (first | (go_at_call 53; exact (sName_bs _ _ (by first | exact c3 | exact c4)).quiet_of_same) | (go_at_call 51; exact (l6In_any _ _ _ _).quiet_of_same))
                go_wp2
                go_roundg (us.length - (0 + 1))
                case measure => have := HM.out; omega
                case rel => exact ⟨0 + 1, rfl, by omega, by go_num, by rw [HT.out, HU1.out, HL.out]; rfl, by (repeat' with_reducible first | exact HK.out | refine Kept.alloc ?_ _ | refine Kept.drewN ?_ _)⟩
              · have h0' : (0 : Int) < k := by omega
                have h0n : 0 < k := by omega
                have h1i : (1 : Int) ≤ k := by omega
                have h1j : (k : Int) - 1 < us.length := by omega
                have h1k : k - 1 < us.length := by omega
                have hlt' := lastN_take k h0n h1k
                obtain ⟨e0, -, -, -, -⟩ := HC.out (k - 1) h1k
                have he0 := hK.cell_some e0 (by simp)
                have HLT := hid hlt'
                clear e0 hlt'
                cases hlss : Op.bytesLess us[k - 1].name us[k].name with
                | true =>
                  have ht : (!(Op.bytesLess (bs us[k - 1].name).toList (bs us[k].name).toList)) = false := by
                    rw [ByteArray.toList_eq, ByteArray.toList_eq, bs_toList, bs_toList, hlss]; rfl
                  have HL := hid hlss
                  clear hlss
                  go_wp2
                  go_quiet (first | (go_at_call 53; exact (sName_bs _ _ (by first | exact c3 | exact c4)).quiet_of_same) | (go_at_call 51; exact (l6In_any _ _ _ _).quiet_of_same))
                  go_wp2
                  go_roundg (us.length - (k + 1))
                  case measure => have := HM.out; omega
                  case rel => exact ⟨k + 1, rfl, by omega, by go_num, by rw [HT.out, HU1.out, HLT.out, HL.out]; rfl, by (repeat' with_reducible first | exact HK.out | refine Kept.alloc ?_ _ | refine Kept.drewN ?_ _)⟩
                | false =>
                  have ht : (!(Op.bytesLess (bs us[k - 1].name).toList (bs us[k].name).toList)) = true := by
                    rw [ByteArray.toList_eq, ByteArray.toList_eq, bs_toList, bs_toList, hlss]; rfl
                  have HL := hid hlss
                  clear hlss
                  go_wp2
                  go_quiet (first | (go_at_call 53; exact (sName_bs _ _ (by first | exact c3 | exact c4)).quiet_of_same) | (go_at_call 51; exact (l6In_any _ _ _ _).quiet_of_same))
                  go_wp2
                  go_ret
                  exact ⟨ret_bool (by rw [HD.out, HP.out (by rw [HT.out, HU1.out, HLT.out, HL.out]; rfl)]; simp), by (repeat' with_reducible first | exact HK.out | refine Kept.alloc ?_ _ | refine Kept.drewN ?_ _)⟩
    · obtain rfl : k = us.length := by omega
      have hall : ascOk [] us = true := by have := HA.out; rwa [List.take_length] at this
      have HL := hid hall
      clear hall hK
      go_wp2_with (go_at_call 51; refine (l6In_any _ _ _ _).mono ?_; rintro e w' ⟨rfl, rfl⟩)
      go_ret
      refine ⟨ret_bool ?_, HK.out⟩
      rw [HD.out, HL.out, Bool.eq_iff_iff]; simp; omega

/-- Where a name is found, as Go says it. -/
def findZ (us : List Usr) (n : List UInt8) : Int := match us.findIdx? (fun u => u.name == n) with | some k => k | none => -1

theorem findZ_no {us : List Usr} {n : List UInt8} (h : ∀ j (hj : j < us.length), us[j].name ≠ n) : findZ us n = -1 := by
  unfold findZ
  rw [List.findIdx?_eq_none_iff.2 (fun u hu => by
    obtain ⟨j, hj, rfl⟩ := List.mem_iff_getElem.1 hu
    simpa using h j hj)]
theorem findZ_yes {us : List Usr} {n : List UInt8} {k : Nat} (hk : k < us.length) (hn : us[k].name = n) (h : ∀ j (hj : j < k), us[j].name ≠ n) : findZ us n = k := by
  unfold findZ
  rw [List.findIdx?_eq_some_iff_getElem.2 ⟨hk, by simpa using hn, fun j hj => by simpa using h j hj⟩]

theorem l14Find_any (lo : Nat) (v : Value) (us : List Usr) (nm : ByteArray) (w : World) (hu : UsersAt lo w v us) :
    Calls Tryz.prog 66 #[v, .string nm] w fun e w' => e = .returned (.int .i64 (findZ us nm.data.toList)) ∧ w' = w := by
  obtain ⟨a, cap, b, off, rfl, hl, ha, hc⟩ := hu
  have HC := hid hc
  have hl63 : us.length ≤ 2 ^ 63 - 1 := by have := Nat.le_trans hl bigN_le; unfold maxLen at this; exact this
  have HAD := hid ha
  clear hc ha hl
  go_enter Tryz.func66, Tryz.ntmps66
  go_wp2
  go_loopg [5] us.length (fun m i wr => ∃ k : Nat, m = us.length - k ∧ k ≤ us.length ∧ i = .int .i64 k ∧ (∀ j (hj : j < us.length), j < k → us[j].name ≠ nm.data.toList) ∧ wr = w)
  case atStart => exact ⟨0, rfl, Nat.zero_le _, rfl, fun j _ h => absurd h (by omega), rfl⟩
  case round =>
    obtain ⟨k, hm, hk, rfl, hno, rfl⟩ := hrel
    have HM := hid hm
    have HN := hid hno
    clear hm hno
    by_cases hlt : k < us.length
    · obtain ⟨rfl, hlo, hbw⟩ := HAD.out (by omega)
      obtain ⟨hc0, -, -, -, -⟩ := HC.out k hlt
      by_cases hn : us[k].name = nm.data.toList
      · have hn' : ((bs us[k].name).toList == nm.toList) = true := by rw [str_eq, bs_toList, ByteArray.toList_eq]; simpa using hn
        have HF := hid (findZ_yes hlt hn (fun j hj => HN.out j (by omega) hj))
        clear hn
        go_wp2
        go_ret
        exact ⟨ret_int HF.out.symm, rfl⟩
      · have hn' : ((bs us[k].name).toList == nm.toList) = false := by rw [str_eq, bs_toList, ByteArray.toList_eq]; simpa using hn
        have HF := hid hn
        clear hn
        go_wp2
        go_roundg (us.length - (k + 1))
        case measure => have := HM.out; omega
        case rel =>
          refine ⟨k + 1, rfl, by omega, by go_num, fun j hj h => ?_, rfl⟩
          by_cases e : j = k
          · subst e; exact HF.out
          · exact HN.out j hj (by omega)
    · obtain rfl : k = us.length := by omega
      have HF := hid (findZ_no (fun j hj => HN.out j hj hj))
      go_wp2
      go_ret
      exact ⟨ret_int HF.out.symm, rfl⟩
end Go.Proofs.YtahiahboneljaaaGreatDoor
namespace Go.Proofs.YtahiahboneljaaaGreatDoor
open Go.RowKit

/-- What finding hands back. -/
def fndRes (o : Option Usr) : Value := match o with
  | none => .tuple #[.agg #[.string ⟨#[]⟩, .string ⟨#[]⟩, .int .i64 0], .bool false]
  | some u => .tuple #[.agg #[.string (bs u.name), .string (bs u.pass), .int .i64 u.quota], .bool true]

theorem fnd_no {us : List Usr} {n : List UInt8} (h : ∀ j (hj : j < us.length), us[j].name ≠ n) : usrFind us n = none := by
  unfold usrFind
  rw [List.find?_eq_none]
  intro u hu
  obtain ⟨j, hj, rfl⟩ := List.mem_iff_getElem.1 hu
  simpa using h j hj
theorem fnd_yes {us : List Usr} {n : List UInt8} {k : Nat} (hk : k < us.length) (hn : us[k].name = n) (h : ∀ j (hj : j < us.length), j < k → us[j].name ≠ n) : usrFind us n = some us[k] := by
  unfold usrFind
  rw [List.find?_eq_some_iff_getElem]
  exact ⟨by simpa using hn, k, hk, rfl, fun j hj => by simpa using h j (by omega) hj⟩

theorem findTest_any (u : Usr) (pb : Nat) (nm : ByteArray) (w : World) (hc : w.cell? ⟨pb, 0, none⟩ = some (.string nm)) :
    Calls Tryz.prog 92 #[.agg #[.string (bs u.name), .string (bs u.pass), .int .i64 u.quota], .pointer (some ⟨pb, 0, none⟩)] w fun e w' => e = .returned (.bool (u.name == nm.data.toList)) ∧ Kept [] w w' := by
  have hpb := lt_of_cell hc
  simp at hpb
  go_enter Tryz.func92, Tryz.ntmps92
  go_wp2
  go_ret
  refine ⟨ret_bool ?_, (Kept.refl _ _).alloc _⟩
  rw [ByteArray.toList_eq, ByteArray.toList_eq, bs_toList]

theorem findBy_any (lo : Nat) (v : Value) (us : List Usr) (pb : Nat) (nm : ByteArray) (w : World) (hu : UsersAt lo w v us) (hp : w.cell? ⟨pb, 0, none⟩ = some (.string nm)) :
    Calls Tryz.prog 91 #[v, .func (.func 92) #[] #[.pointer (some ⟨pb, 0, none⟩)]] w fun e w' => e = .returned (fndRes (usrFind us nm.data.toList)) ∧ Kept [] w w' := by
  have hpb := lt_of_cell hp
  obtain ⟨a, cap, b, off, rfl, hl, ha, hc⟩ := hu
  have HC := hid hc
  have hl63 : us.length ≤ 2 ^ 63 - 1 := by have := Nat.le_trans hl bigN_le; unfold maxLen at this; exact this
  have HAD := hid ha
  have HP := hid hp
  have hR := new_block w (Obj.cells #[.string ⟨#[]⟩, .string ⟨#[]⟩, .int .i64 0] 35)
  have HR := hid hR
  have K0 := hid ((Kept.refl [] w).alloc (Obj.cells #[.string ⟨#[]⟩, .string ⟨#[]⟩, .int .i64 0] 35))
  clear hc ha hl hp hR
  go_enter Tryz.func91, Tryz.ntmps91
  go_wp2
  go_loopg [11] us.length (fun m i wr => ∃ k : Nat, m = us.length - k ∧ k ≤ us.length ∧ i = .int .i64 k ∧ (∀ j (hj : j < us.length), j < k → us[j].name ≠ nm.data.toList) ∧ Kept [] w wr ∧ wr.heap[w.heap.size]? = some (Obj.cells #[.string ⟨#[]⟩, .string ⟨#[]⟩, .int .i64 0] 35))
  case atStart => exact ⟨0, rfl, Nat.zero_le _, rfl, fun j _ h => absurd h (by omega), K0.out, HR.out⟩
  case round =>
    obtain ⟨k, hm, hk, rfl, hno, hK, hR⟩ := hrel
    have HM := hid hm
    have HN := hid hno
    have HK := hid hK
    have hpr := hK.cell_some HP.out (by simp)
    have hr0 := cell_of_block hR 0
    have hr1 := cell_of_block hR 1
    have hr2 := cell_of_block hR 2
    have hf0 := frozen_of_block hR 0
    have hf1 := frozen_of_block hR 1
    have hf2 := frozen_of_block hR 2
    have hsz := lt_of_block hR
    simp at hr0 hr1 hr2
    have HRR := hid hR
    clear hm hno hR
    by_cases hlt : k < us.length
    · obtain ⟨rfl, hlo, hbw⟩ := HAD.out (by omega)
      obtain ⟨c0, c1, c2, -, -⟩ := HC.out k hlt
      have hbr : b < wr.heap.size := Nat.lt_of_lt_of_le hbw hK.size
      have hc0 := hK.cell_some c0 (by simp)
      have hc1 := hK.cell_some c1 (by simp)
      have hc2 := hK.cell_some c2 (by simp)
      have HB := hid (new_block wr (Obj.cells #[.string (bs us[k].name), .string (bs us[k].pass), .int .i64 us[k].quota] 35))
      have hpa : (wr.alloc (Obj.cells #[.string (bs us[k].name), .string (bs us[k].pass), .int .i64 us[k].quota] 35)).cell? ⟨pb, 0, none⟩ = some (.string nm) := ((Kept.refl [] wr).alloc _).cell_some hpr (by simp)
      have HPA := hid hpa
      clear hK c0 c1 c2 hpr hpa
      go_wp2_with fail
      refine (findTest_any us[k] pb nm _ HPA.out).mono ?_
      rintro e w1 ⟨rfl, hK⟩
      have HK1 := hid ((HK.out.alloc _).trans hK)
      have hB := hK.same HB.out (by simp)
      have hd0 := cell_of_block hB 0
      have hd1 := cell_of_block hB 1
      have hd2 := cell_of_block hB 2
      have hR1 := hK.same (alloc_block HRR.out _) (by simp)
      have hr0 := cell_of_block hR1 0
      have hr1 := cell_of_block hR1 1
      have hr2 := cell_of_block hR1 2
      have hf0 := frozen_of_block hR1 0
      have hf1 := frozen_of_block hR1 1
      have hf2 := frozen_of_block hR1 2
      have hsz := lt_of_block hR1
      have HR1 := hid hR1
      simp at hr0 hr1 hr2 hd0 hd1 hd2
      clear hK hB hR1
      by_cases hn : us[k].name = nm.data.toList
      · have HF := hid (fnd_yes hlt hn (fun j hj h => HN.out j hj h))
        have hn' : (us[k].name == nm.data.toList) = true := by simpa using hn
        rw [hn']
        clear hn hn'
        go_wp2
        refine bodyPost_ret (v := .tuple #[.agg #[.string (bs us[k].name), .string (bs us[k].pass), .int .i64 us[k].quota], .bool true]) (by simp [results, Tryz.results91, go_sem, hr0, hr1, hr2]) rfl ⟨by rw [HF.out]; rfl, ?_⟩
        (repeat' with_reducible first | exact HK1.out | refine Kept.alloc ?_ _ | refine Kept.drewN ?_ _ | refine Kept.drew ?_ | refine Kept.setCell ?_ _ _ (by simp))
      · have hn' : (us[k].name == nm.data.toList) = false := by simpa using hn
        have HF := hid hn
        rw [hn']
        clear hn hn'
        go_wp2
        go_roundg (us.length - (k + 1))
        case measure => have := HM.out; omega
        case rel =>
          refine ⟨k + 1, rfl, by omega, by go_num, fun j hj h => ?_, HK1.out, HR1.out⟩
          by_cases e : j = k
          · subst e; exact HF.out
          · exact HN.out j hj (by omega)
    · obtain rfl : k = us.length := by omega
      have HF := hid (fnd_no (fun j hj => HN.out j hj hj))
      clear hK
      go_wp2
      refine bodyPost_ret (v := .tuple #[.agg #[.string ⟨#[]⟩, .string ⟨#[]⟩, .int .i64 0], .bool false]) (by simp [results, Tryz.results91, go_sem, hr0, hr1, hr2, hsz]) rfl ⟨by rw [HF.out]; rfl, ?_⟩
      (repeat' with_reducible first | exact HK.out | refine Kept.alloc ?_ _ | refine Kept.drewN ?_ _ | refine Kept.drew ?_ | refine Kept.setCell ?_ _ _ (by simp))

/-- Finding behind the look at the whole list. -/
def usrSeek (us : List Usr) (n : List UInt8) : Option Usr := if usersOk us then usrFind us n else none

theorem iUsersFind_any (lo : Nat) (v : Value) (us : List Usr) (nm : ByteArray) (w : World) (hu : UsersAt lo w v us) :
    Calls Tryz.prog 74 #[v, .string nm] w fun e w' => e = .returned (fndRes (usrSeek us nm.data.toList)) ∧ Kept [] w w' := by
  have K0 := hid (((Kept.refl [] w).alloc (Obj.cells #[.string nm] 9)).alloc (Obj.cells #[.string ⟨#[]⟩, .string ⟨#[]⟩, .int .i64 0] 35))
  have HB := hid (alloc_block (new_block w (Obj.cells #[.string nm] 9)) (Obj.cells #[.string ⟨#[]⟩, .string ⟨#[]⟩, .int .i64 0] 35))
  have HR := hid (new_block (w.alloc (Obj.cells #[.string nm] 9)) (Obj.cells #[.string ⟨#[]⟩, .string ⟨#[]⟩, .int .i64 0] 35))
  rw [World.size_alloc] at HR
  have HU := hid (hu.kept0 K0.out)
  clear hu
  go_enter Tryz.func74, Tryz.ntmps74
  go_wp2_with fail
  refine (iUsersValid_any lo v us _ HU.out).mono ?_
  rintro e w1 ⟨rfl, hK⟩
  have HK1 := hid (K0.out.trans hK)
  have hR1 := hK.same HR.out (by simp)
  have hr0 := cell_of_block hR1 0
  have hr1 := cell_of_block hR1 1
  have hr2 := cell_of_block hR1 2
  have hf0 := frozen_of_block hR1 0
  have hf1 := frozen_of_block hR1 1
  have hf2 := frozen_of_block hR1 2
  have hsz := lt_of_block hR1
  simp at hr0 hr1 hr2
  have HR1 := hid hR1
  have HU1 := hid (HU.out.kept0 hK)
  have HB1 := hid (hK.same HB.out (by simp))
  clear hK hR1
  cases hok : usersOk us with
  | false =>
    have HF : Hid (usrSeek us nm.data.toList = none) := by show _ = _; unfold usrSeek; rw [if_neg (by rw [hok]; simp)]
    clear hok
    go_wp2
    refine bodyPost_ret (v := .tuple #[.agg #[.string ⟨#[]⟩, .string ⟨#[]⟩, .int .i64 0], .bool false]) (by simp [results, Tryz.results74, go_sem, hr0, hr1, hr2]) rfl ⟨by rw [HF.out]; rfl, ?_⟩
    (repeat' with_reducible first | exact HK1.out | refine Kept.alloc ?_ _ | refine Kept.drewN ?_ _ | refine Kept.drew ?_ | refine Kept.setCell ?_ _ _ (by simp))
  | true =>
    have HF : Hid (usrSeek us nm.data.toList = usrFind us nm.data.toList) := by show _ = _; unfold usrSeek; rw [if_pos hok]
    have hmf : ∀ (fn : Fn) (first cap : Array Value) (w : World), (Instr.makeFunc fn first cap).run Tryz.prog w = .ok (.func fn first cap) w := fun _ _ _ _ => rfl
    clear hok
    go_wp2_with fail
    refine (findBy_any lo v us w.heap.size nm _ HU1.out (by rw [cell_of_block HB1.out]; rfl)).mono ?_
    rintro e w2 ⟨rfl, hK⟩
    have HK2 := hid (HK1.out.trans hK)
    have hR1 := hK.same HR1.out (by simp)
    have hr0 := cell_of_block hR1 0
    have hr1 := cell_of_block hR1 1
    have hr2 := cell_of_block hR1 2
    have hf0 := frozen_of_block hR1 0
    have hf1 := frozen_of_block hR1 1
    have hf2 := frozen_of_block hR1 2
    have hsz := lt_of_block hR1
    simp at hr0 hr1 hr2
    clear hK hR1
    cases hfd : usrFind us nm.data.toList with
    | none =>
      rw [show fndRes none = .tuple #[.agg #[.string ⟨#[]⟩, .string ⟨#[]⟩, .int .i64 0], .bool false] from rfl]
      go_wp2
      refine bodyPost_ret (v := .tuple #[.agg #[.string ⟨#[]⟩, .string ⟨#[]⟩, .int .i64 0], .bool false]) (by simp [results, Tryz.results74, go_sem, hr0, hr1, hr2]) rfl ⟨by rw [HF.out, hfd]; rfl, ?_⟩
      (repeat' with_reducible first | exact HK2.out | refine Kept.alloc ?_ _ | refine Kept.drewN ?_ _ | refine Kept.drew ?_ | refine Kept.setCell ?_ _ _ (by simp))
    | some u =>
      rw [show fndRes (some u) = .tuple #[.agg #[.string (bs u.name), .string (bs u.pass), .int .i64 u.quota], .bool true] from rfl]
      go_wp2
      refine bodyPost_ret (v := .tuple #[.agg #[.string (bs u.name), .string (bs u.pass), .int .i64 u.quota], .bool true]) (by simp [results, Tryz.results74, go_sem, hr0, hr1, hr2]) rfl ⟨by rw [HF.out, hfd]; rfl, ?_⟩
      (repeat' with_reducible first | exact HK2.out | refine Kept.alloc ?_ _ | refine Kept.drewN ?_ _ | refine Kept.drew ?_ | refine Kept.setCell ?_ _ _ (by simp))
end Go.Proofs.YtahiahboneljaaaGreatDoor
namespace Go.Proofs.YtahiahboneljaaaGreatDoor
open Go.RowKit

/-- Where it is found, or that it is not. -/
theorem findZ_cases (us : List Usr) (n : List UInt8) : (findZ us n = -1 ∧ usrFind us n = none) ∨ (∃ k, ∃ h : k < us.length, findZ us n = (k : Int) ∧ usrFind us n = some us[k]) := by
  unfold findZ usrFind
  cases h : us.findIdx? (fun u => u.name == n) with
  | none =>
    left
    refine ⟨rfl, ?_⟩
    rw [List.findIdx?_eq_none_iff] at h
    rw [List.find?_eq_none]
    intro u hu; simpa using h u hu
  | some k =>
    right
    rw [List.findIdx?_eq_some_iff_getElem] at h
    obtain ⟨hk, h1, h2⟩ := h
    refine ⟨k, hk, rfl, ?_⟩
    rw [List.find?_eq_some_iff_getElem]
    exact ⟨h1, k, hk, rfl, fun j hj => by simpa using h2 j hj⟩

theorem sUsersFind_any (lo : Nat) (v : Value) (us : List Usr) (nm : ByteArray) (w : World) (hu : UsersAt lo w v us) :
    Calls Tryz.prog 107 #[v, .string nm] w fun e w' => e = .returned (fndRes (usrSeek us nm.data.toList)) ∧ Kept [] w w' := by
  have K0 := hid ((Kept.refl [] w).alloc (Obj.cells #[.string ⟨#[]⟩, .string ⟨#[]⟩, .int .i64 0] 35))
  have HR := hid (new_block w (Obj.cells #[.string ⟨#[]⟩, .string ⟨#[]⟩, .int .i64 0] 35))
  have HU := hid (hu.kept0 K0.out)
  clear hu
  go_enter Tryz.func107, Tryz.ntmps107
  go_wp2_with fail
  refine (sUsersValid_any lo v us _ HU.out).mono ?_
  rintro e w1 ⟨rfl, hK⟩
  have HK1 := hid (K0.out.trans hK)
  have hR1 := hK.same HR.out (by simp)
  have hr0 := cell_of_block hR1 0
  have hr1 := cell_of_block hR1 1
  have hr2 := cell_of_block hR1 2
  have hf0 := frozen_of_block hR1 0
  have hf1 := frozen_of_block hR1 1
  have hf2 := frozen_of_block hR1 2
  have hsz := lt_of_block hR1
  simp at hr0 hr1 hr2
  have HU1 := hid (HU.out.kept0 hK)
  clear hK hR1
  cases hok : usersOk us with
  | false =>
    have HF : Hid (usrSeek us nm.data.toList = none) := by show _ = _; unfold usrSeek; rw [if_neg (by rw [hok]; simp)]
    clear hok
    go_wp2
    refine bodyPost_ret (v := .tuple #[.agg #[.string ⟨#[]⟩, .string ⟨#[]⟩, .int .i64 0], .bool false]) (by simp [results, Tryz.results107, go_sem, hr0, hr1, hr2]) rfl ⟨by rw [HF.out]; rfl, ?_⟩
    (repeat' with_reducible first | exact HK1.out | refine Kept.alloc ?_ _ | refine Kept.drewN ?_ _ | refine Kept.drew ?_ | refine Kept.setCell ?_ _ _ (by simp))
  | true =>
    have HF : Hid (usrSeek us nm.data.toList = usrFind us nm.data.toList) := by show _ = _; unfold usrSeek; rw [if_pos hok]
    clear hok
    go_wp2_with fail
    refine (l14Find_any lo v us nm _ HU1.out).mono ?_
    rintro e w2 ⟨rfl, rfl⟩
    rcases findZ_cases us nm.data.toList with ⟨hz, hfd⟩ | ⟨k, hk, hz, hfd⟩
    · rw [hz]
      clear hz
      have HFD := hid hfd
      clear hfd
      go_wp2
      refine bodyPost_ret (v := .tuple #[.agg #[.string ⟨#[]⟩, .string ⟨#[]⟩, .int .i64 0], .bool false]) (by simp [results, Tryz.results107, go_sem, hr0, hr1, hr2]) rfl ⟨by rw [HF.out, HFD.out]; rfl, ?_⟩
      (repeat' with_reducible first | exact HK1.out | refine Kept.alloc ?_ _ | refine Kept.drewN ?_ _ | refine Kept.drew ?_ | refine Kept.setCell ?_ _ _ (by simp))
    · rw [hz]
      have HZ := hid hz
      have HFD := hid hfd
      clear hfd hz
      go_wp2_with fail
      refine (l14Find_any lo v us nm _ HU1.out).mono ?_
      rintro e w3 ⟨rfl, rfl⟩
      rw [HZ.out]
      obtain ⟨a, cap, b, off, rfl, hl, ha, hc⟩ := HU1.out
      obtain ⟨rfl, hlo, hbw⟩ := ha (by omega)
      obtain ⟨hc0, hc1, hc2, -, -⟩ := hc k hk
      clear hc ha
      go_wp2
      refine bodyPost_ret (v := .tuple #[.agg #[.string (bs us[k].name), .string (bs us[k].pass), .int .i64 us[k].quota], .bool true]) (by simp [results, Tryz.results107, go_sem, hr0, hr1, hr2]) rfl ⟨by rw [HF.out, HFD.out]; rfl, ?_⟩
      (repeat' with_reducible first | exact HK1.out | refine Kept.alloc ?_ _ | refine Kept.drewN ?_ _ | refine Kept.drew ?_ | refine Kept.setCell ?_ _ _ (by simp))

/-- The name has the password. -/
def usrHas (us : List Usr) (n p : List UInt8) : Bool := match usrSeek us n with | some u => u.pass == p | none => false

theorem iUsersProve_any (lo : Nat) (v : Value) (us : List Usr) (nm pw : ByteArray) (w : World) (hu : UsersAt lo w v us) :
    Calls Tryz.prog 88 #[v, .string nm, .string pw] w fun e w' => e = .returned (.bool (usrHas us nm.data.toList pw.data.toList)) ∧ Kept [] w w' := by
  have HU := hid hu
  clear hu
  go_enter Tryz.func88, Tryz.ntmps88
  go_wp2_with fail
  refine (iUsersFind_any lo v us nm _ HU.out).mono ?_
  rintro e w1 ⟨rfl, hK⟩
  have HK1 := hid hK
  clear hK
  cases hs : usrSeek us nm.data.toList with
  | none =>
    have HF : Hid (usrHas us nm.data.toList pw.data.toList = false) := by show _ = _; unfold usrHas; rw [hs]
    rw [show fndRes none = .tuple #[.agg #[.string ⟨#[]⟩, .string ⟨#[]⟩, .int .i64 0], .bool false] from rfl]
    clear hs
    go_wp2
    go_ret
    refine ⟨ret_bool HF.out.symm, ?_⟩
    (repeat' with_reducible first | exact HK1.out | refine Kept.alloc ?_ _ | refine Kept.drewN ?_ _ | refine Kept.drew ?_ | refine Kept.setCell ?_ _ _ (by simp))
  | some u =>
    have HF : Hid (usrHas us nm.data.toList pw.data.toList = (u.pass == pw.data.toList)) := by show _ = _; unfold usrHas; rw [hs]
    rw [show fndRes (some u) = .tuple #[.agg #[.string (bs u.name), .string (bs u.pass), .int .i64 u.quota], .bool true] from rfl]
    clear hs
    go_wp2
    go_ret
    refine ⟨ret_bool ?_, ?_⟩
    · rw [HF.out, ByteArray.toList_eq, ByteArray.toList_eq, bs_toList]
    (repeat' with_reducible first | exact HK1.out | refine Kept.alloc ?_ _ | refine Kept.drewN ?_ _ | refine Kept.drew ?_ | refine Kept.setCell ?_ _ _ (by simp))

theorem sUsersProve_any (lo : Nat) (v : Value) (us : List Usr) (nm pw : ByteArray) (w : World) (hu : UsersAt lo w v us) :
    Calls Tryz.prog 94 #[v, .string nm, .string pw] w fun e w' => e = .returned (.bool (usrHas us nm.data.toList pw.data.toList)) ∧ Kept [] w w' := by
  have HU := hid hu
  clear hu
  go_enter Tryz.func94, Tryz.ntmps94
  go_wp2_with fail
  refine (sUsersFind_any lo v us nm _ HU.out).mono ?_
  rintro e w1 ⟨rfl, hK⟩
  have HK1 := hid hK
  clear hK
  cases hs : usrSeek us nm.data.toList with
  | none =>
    have HF : Hid (usrHas us nm.data.toList pw.data.toList = false) := by show _ = _; unfold usrHas; rw [hs]
    rw [show fndRes none = .tuple #[.agg #[.string ⟨#[]⟩, .string ⟨#[]⟩, .int .i64 0], .bool false] from rfl]
    clear hs
    go_wp2
    go_ret
    refine ⟨ret_bool HF.out.symm, ?_⟩
    (repeat' with_reducible first | exact HK1.out | refine Kept.alloc ?_ _ | refine Kept.drewN ?_ _ | refine Kept.drew ?_ | refine Kept.setCell ?_ _ _ (by simp))
  | some u =>
    have HF : Hid (usrHas us nm.data.toList pw.data.toList = (u.pass == pw.data.toList)) := by show _ = _; unfold usrHas; rw [hs]
    rw [show fndRes (some u) = .tuple #[.agg #[.string (bs u.name), .string (bs u.pass), .int .i64 u.quota], .bool true] from rfl]
    clear hs
    go_wp2
    go_ret
    refine ⟨ret_bool ?_, ?_⟩
    · rw [HF.out, ByteArray.toList_eq, ByteArray.toList_eq, bs_toList]
    (repeat' with_reducible first | exact HK1.out | refine Kept.alloc ?_ _ | refine Kept.drewN ?_ _ | refine Kept.drew ?_ | refine Kept.setCell ?_ _ _ (by simp))
end Go.Proofs.YtahiahboneljaaaGreatDoor
