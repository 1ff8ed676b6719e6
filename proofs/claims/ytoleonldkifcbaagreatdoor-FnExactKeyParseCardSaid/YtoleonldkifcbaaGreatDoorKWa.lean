/- The walks of names and small general walks (both sides). -/
import Derived.Test.YtoleonldkifcbaaGreatDoorRows
import Derived.Test.YtoleonldkifcbaaGreatDoorKB
import Derived.Test.YtoleonldkifcbaaGreatDoorKP
import Derived.WalkLawsBesides
import Derived.Deep.QuietTactic
import Derived.BigQuiet
import Derived.Laws.OwnMore
namespace Go.Proofs.YtoleonldkifcbaaGreatDoor
open Go.RowKit

theorem l6In_any (n lo hi : Int) (w : World) :
    Calls Tryz.prog 83 #[.int .i64 n, .int .i64 lo, .int .i64 hi] w fun e w' => e = .returned (.bool (decide (lo ≤ n) && decide (n ≤ hi))) ∧ w' = w := by
  go_enter Tryz.func83, Tryz.ntmps83
  go_wp2
  all_goals
    go_ret
    simp [*]
  omega

theorem done_any (b : Nat) (s : ByteArray) (k : Nat) (w : World) (h0 : w.cell? ⟨b, 0, none⟩ = some (.string s)) (h1 : w.cell? ⟨b, 1, none⟩ = some (.int .i64 k)) :
    Calls Tryz.prog 68 #[.pointer (some ⟨b, 0, none⟩)] w fun e w' => e = .returned (.bool (decide (k = s.size))) ∧ ∃ n, w' = w.drewN n := by
  go_enter Tryz.func68, Tryz.ntmps68
  go_wp2
  go_quiet (fail)
  go_wp2
  go_ret
  refine ⟨ret_bool ?_, nq, rfl⟩
  rw [Bool.eq_iff_iff]
  simp
  omega

theorem done_no (b : Nat) (s : ByteArray) (k n : Nat) (w : World) (h0 : w.cell? ⟨b, 0, none⟩ = some (.string s)) (h1 : w.cell? ⟨b, 1, none⟩ = some (.int .i64 k)) (hk : k < s.size) :
    Calls Tryz.prog 68 #[.pointer (some ⟨b, 0, none⟩)] (w.drewN n) fun e w' => e = .returned (.bool false) ∧ ∃ m, w' = w.drewN m :=
  Calls.quiet_of ((done_any b s k (w.drewN n) h0 h1).mono fun e w' ⟨h, h'⟩ => ⟨by rw [h, decide_eq_false (by omega)], h'⟩)
theorem done_yes (b : Nat) (s : ByteArray) (k n : Nat) (w : World) (h0 : w.cell? ⟨b, 0, none⟩ = some (.string s)) (h1 : w.cell? ⟨b, 1, none⟩ = some (.int .i64 k)) (hk : ¬ k < s.size) (hk' : k ≤ s.size) :
    Calls Tryz.prog 68 #[.pointer (some ⟨b, 0, none⟩)] (w.drewN n) fun e w' => e = .returned (.bool true) ∧ ∃ m, w' = w.drewN m :=
  Calls.quiet_of ((done_any b s k (w.drewN n) h0 h1).mono fun e w' ⟨h, h'⟩ => ⟨by rw [h, decide_eq_true (by omega)], h'⟩)

theorem nameByte_any (c : Int) (h0 : 0 ≤ c) (h1 : c < 256) (w : World) :
    Calls Tryz.prog 92 #[.int .u8 c] w fun e w' => e = .returned (.bool (decide (97 ≤ c ∧ c ≤ 122 ∨ 48 ≤ c ∧ c ≤ 57))) ∧ w' = w := by
  go_enter Tryz.func92, Tryz.ntmps92
  go_wp2
  all_goals
    go_ret
    first | (simp; omega) | (simp [*]; done) | (simp [*]; omega)

theorem nameByte_of (c : UInt8) (w : World) :
    Calls Tryz.prog 92 #[.int .u8 c.toNat] w fun e w' => e = .returned (.bool (nmB c)) ∧ w' = w := by
  rw [nmB_iff]; exact nameByte_any _ (by omega) (byte_lt c) w

theorem name_any (b : Nat) (s : ByteArray) (k : Nat) (t : TypeId) (w : World) (hs : s.size ≤ maxLen) (hk : k ≤ s.size) (hb : w.heap[b]? = some (.cells #[.string s, .int .i64 k] t (0, 0))) :
    Calls Tryz.prog 73 #[.pointer (some ⟨b, 0, none⟩)] w fun e w' =>
      e = .returned (.tuple #[.string (s.extract k (nmEnd s.data.toList k)), .bool (decide (1 ≤ nmEnd s.data.toList k - k ∧ nmEnd s.data.toList k - k ≤ 8))]) ∧
      Kept [b] w w' ∧ w'.heap[b]? = some (.cells #[.string s, .int .i64 (nmEnd s.data.toList k)] t (0, 0)) := by
  unfold maxLen at hs
  have hc0 := cell_of_block hb 0
  have hc1 := cell_of_block hb 1
  simp at hc0 hc1
  go_enter Tryz.func73, Tryz.ntmps73
  go_wp2
  go_loopg [] (s.size - k) (fun m wr => ∃ j : Nat, m = s.size - j ∧ k ≤ j ∧ j ≤ s.size ∧ nmEnd s.data.toList k = nmEnd s.data.toList j ∧ Kept [b] w wr ∧ wr.heap[b]? = some (.cells #[.string s, .int .i64 j] t (0, 0)))
  case atStart => exact ⟨k, rfl, Nat.le_refl _, hk, rfl, Kept.refl _ _, hb⟩
  case round =>
    obtain ⟨j, hm, hkj, hj, he, hK, hbj⟩ := hrel
    have HM := hid hm
    have HE := hid he
    clear hm he hb hc0 hc1
    have hc0 := cell_of_block hbj 0
    have hc1 := cell_of_block hbj 1
    have hf1 := frozen_of_block hbj 1
    have Hbj := hid hbj
    clear hbj
    simp at hc0 hc1
    by_cases hlt : j < s.size
    · by_cases hn : nmB s[j] = true
      · go_wp2
        go_quiet (first | (go_at_call 68; exact done_no b s j _ _ hc0 hc1 hlt) | (go_at_call 92; exact (nameByte_of _ _).quiet_of_same))
        go_wp2
        go_roundg (s.size - (j + 1))
        case rel => exact ⟨j + 1, rfl, by omega, by omega, by rw [HE.out]; exact nmEnd_step _ _ (by simpa using hlt) hn, (hK.drewN _).setCell _ _ (by simp), set_of_blockN Hbj.out _⟩
        case measure => have := HM.out; omega
      · have hn' : nmB s[j] = false := by simpa using hn
        have hj' : nmEnd s.data.toList k = j := by rw [HE.out]; exact nmEnd_stop _ _ (by simpa using hlt) hn'
        have HJ := hid hj'
        clear hj' hn
        go_wp2
        go_quiet (first | (go_at_call 68; exact done_no b s j _ _ hc0 hc1 hlt) | (go_at_call 92; exact (nameByte_of _ _).quiet_of_same))
        go_wp2
        by_cases h1 : (1 : Int) ≤ (j : Int) - k
        · go_quiet (fail)
          go_wp2
          go_ret2
          refine ⟨ret_sb (by rw [HJ.out]) ?_, by first | exact hK.drewN _ | exact (hK.drewN _).drewN _, by rw [HJ.out]; exact Hbj.out⟩
          rw [HJ.out, Bool.eq_iff_iff]; simp; omega
        · have h1' : decide ((1 : Int) ≤ (j : Int) - k) = false := by simpa using h1
          go_quiet (fail)
          go_wp2
          go_ret2
          refine ⟨ret_sb (by rw [HJ.out]) ?_, by first | exact hK.drewN _ | exact (hK.drewN _).drewN _, by rw [HJ.out]; exact Hbj.out⟩
          rw [HJ.out, Bool.eq_iff_iff]; simp; omega
    · obtain rfl : j = s.size := by omega
      have hj' : nmEnd s.data.toList k = s.size := by rw [HE.out]; exact nmEnd_end _
      have HJ := hid hj'
      clear hj'
      go_wp2
      go_quiet ((go_at_call 68; exact done_yes b s s.size _ _ hc0 hc1 hlt hj))
      go_wp2
      by_cases h1 : (1 : Int) ≤ (s.size : Int) - k
      · go_quiet (fail)
        go_wp2
        go_ret2
        refine ⟨ret_sb (by rw [HJ.out]) ?_, by first | exact hK.drewN _ | exact (hK.drewN _).drewN _, by rw [HJ.out]; exact Hbj.out⟩
        rw [HJ.out, Bool.eq_iff_iff]; simp; omega
      · have h1' : decide ((1 : Int) ≤ (s.size : Int) - k) = false := by simpa using h1
        go_quiet (fail)
        go_wp2
        go_ret2
        refine ⟨ret_sb (by rw [HJ.out]) ?_, by first | exact hK.drewN _ | exact (hK.drewN _).drewN _, by rw [HJ.out]; exact Hbj.out⟩
        rw [HJ.out, Bool.eq_iff_iff]; simp; omega

/-- name, at k: the new place has a name of its own. -/
theorem name_call (b : Nat) (s : ByteArray) (k : Nat) (t : TypeId) (w : World) (hs : s.size ≤ maxLen) (hk : k ≤ s.size) (hb : w.heap[b]? = some (.cells #[.string s, .int .i64 k] t (0, 0))) :
    Calls Tryz.prog 73 #[.pointer (some ⟨b, 0, none⟩)] w fun e w' =>
      e = .returned (.tuple #[.string (bs ((s.data.toList.drop k).take (nmLen (s.data.toList.drop k)))), .bool (nmGood (s.data.toList.drop k))]) ∧
      Kept [b] w w' ∧ ∃ j : Nat, j = k + nmLen (s.data.toList.drop k) ∧ j ≤ s.size ∧ w'.heap[b]? = some (.cells #[.string s, .int .i64 j] t (0, 0)) := by
  have hle := nmEnd_le s.data.toList k (by simpa using hk)
  refine (name_any b s k t w hs hk hb).mono fun e w' ⟨h1, h2, h3⟩ => ⟨?_, h2, nmEnd s.data.toList k, rfl, by simpa using hle, h3⟩
  rw [h1, extract_bs]
  refine ret_sb (by unfold nmEnd; rw [Nat.add_sub_cancel_left]) ?_
  unfold nmEnd nmGood
  rw [Bool.eq_iff_iff]; simp; try omega

theorem take_no (b : Nat) (s : ByteArray) (k : Nat) (c : Int) (u : UInt8) (t : TypeId) (w : World) (_hs : s.size ≤ maxLen) (hk : k ≤ s.size) (hc : c = u.toNat) (hu : (s.data.toList.drop k).head? ≠ some u)
    (hb : w.heap[b]? = some (.cells #[.string s, .int .i64 k] t (0, 0))) :
    Calls Tryz.prog 69 #[.pointer (some ⟨b, 0, none⟩), .int .u8 c] w fun e w' => e = .returned (.bool false) ∧ ∃ n, w' = w.drewN n := by
  unfold maxLen at _hs
  have hc0 := cell_of_block hb 0
  have hc1 := cell_of_block hb 1
  simp at hc0 hc1
  subst hc
  by_cases hlt : k < s.size
  · have hne : s[k] ≠ u := by
      intro e; apply hu; rw [List.head?_drop]; simp [hlt]; exact e
    have hne' : ((s[k].toNat : Int) != (u.toNat : Int)) = true := by
      rw [bne_iff_ne]; intro e; exact hne (UInt8.toNat_inj.1 (by omega))
    have HN := hid hne
    clear hu hne hb
    go_enter Tryz.func69, Tryz.ntmps69
    go_wp2
    go_quiet ((go_at_call 68; exact done_no b s k _ _ hc0 hc1 hlt))
    go_wp2
    go_ret
    exact ⟨rfl, nq, rfl⟩
  · obtain rfl : k = s.size := by omega
    clear hu hb
    go_enter Tryz.func69, Tryz.ntmps69
    go_wp2
    go_quiet ((go_at_call 68; exact done_yes b s s.size _ _ hc0 hc1 hlt hk))
    go_wp2
    go_ret
    exact ⟨rfl, nq, rfl⟩

theorem take_yes (b : Nat) (s : ByteArray) (k : Nat) (c : Int) (u : UInt8) (t : TypeId) (w : World) (hs : s.size ≤ maxLen) (hc : c = u.toNat) (hu : (s.data.toList.drop k).head? = some u)
    (hb : w.heap[b]? = some (.cells #[.string s, .int .i64 k] t (0, 0))) :
    Calls Tryz.prog 69 #[.pointer (some ⟨b, 0, none⟩), .int .u8 c] w fun e w' => e = .returned (.bool true) ∧ Kept [b] w w' ∧ ∃ j : Nat, j = k + 1 ∧ j ≤ s.size ∧ w'.heap[b]? = some (.cells #[.string s, .int .i64 j] t (0, 0)) := by
  unfold maxLen at hs
  have hc0 := cell_of_block hb 0
  have hc1 := cell_of_block hb 1
  have hf1 := frozen_of_block hb 1
  simp at hc0 hc1
  subst hc
  have hlt : k < s.size := by
    rcases Nat.lt_or_ge k s.size with h | h
    · exact h
    · rw [List.drop_eq_nil_of_le (by simpa using h)] at hu; simp at hu
  have hne : s[k] = u := by
    rw [List.head?_drop] at hu; simp [hlt] at hu; exact hu
  have hne' : ((s[k].toNat : Int) != (u.toNat : Int)) = false := by
    simp [hne]
  have HB := hid hb
  clear hu hne hb
  go_enter Tryz.func69, Tryz.ntmps69
  go_wp2
  go_quiet ((go_at_call 68; exact done_no b s k _ _ hc0 hc1 hlt))
  go_wp2
  go_ret
  exact ⟨rfl, ((Kept.refl _ _).drewN _).setCell _ _ (by simp), k + 1, rfl, hlt, set_of_blockN HB.out _⟩

theorem iNameValid_any (s : ByteArray) (w : World) (hs : s.size ≤ maxLen) :
    Calls Tryz.prog 55 #[.string s] w fun e w' => e = .returned (.bool (isName s.data.toList)) ∧ Kept [] w w' := by
  by_cases hg : nmGood s.data.toList = true
  · have HI := hid (isName_good hg)
    go_enter Tryz.func55, Tryz.ntmps55
    go_wp2_with fail
    refine (name_call w.heap.size s 0 _ _ hs (Nat.zero_le _) (new_block _ _)).mono ?_
    rintro e w1 ⟨rfl, hK, j, hj, hjs, hb⟩
    have HJ := hid hj
    clear hj
    have hc0 := cell_of_block hb 0
    have hc1 := cell_of_block hb 1
    simp at hc0 hc1
    simp only [List.drop_zero]
    go_wp2_with fail
    refine (done_any _ s j w1 hc0 hc1).mono ?_
    rintro e w2 ⟨rfl, n, rfl⟩
    go_wp2
    go_ret
    refine ⟨ret_bool ?_, (((Kept.refl [] w).alloc _).trans' hK (by simp) (by simp)).drewN _⟩
    have := HJ.out
    simp at this
    rw [HI.out, this, show s.data.toList.length = s.size by simp]
  · have hg' : nmGood s.data.toList = false := by simpa using hg
    have HI := hid (isName_bad hg')
    clear hg
    go_enter Tryz.func55, Tryz.ntmps55
    go_wp2_with fail
    refine (name_call w.heap.size s 0 _ _ hs (Nat.zero_le _) (new_block _ _)).mono ?_
    rintro e w1 ⟨rfl, hK, -⟩
    simp only [List.drop_zero]
    have HK := hid hK
    rw [hg']
    clear hK hg'
    go_wp2
    go_ret
    have hK := HK.out
    exact ⟨ret_bool HI.out.symm, ((Kept.refl [] w).alloc _).trans' hK (by simp) (by simp)⟩

theorem sNameValid_any (s : ByteArray) (w : World) (hs : s.size ≤ maxLen) :
    Calls Tryz.prog 91 #[.string s] w fun e w' => e = .returned (.bool (isName s.data.toList)) ∧ w' = w := by
  unfold maxLen at hs
  go_enter Tryz.func91, Tryz.ntmps91
  go_wp2
  go_loopg [3] s.size (fun m i wr => ∃ k : Nat, m = s.size - k ∧ k ≤ s.size ∧ i = .int .i64 k ∧ (s.data.toList.take k).all nmB = true ∧ wr = w)
  case atStart => exact ⟨0, rfl, Nat.zero_le _, rfl, rfl, rfl⟩
  case round =>
    obtain ⟨k, hm, hk, rfl, hall, rfl⟩ := hrel
    have HM := hid hm
    have HA := hid hall
    clear hm hall
    by_cases hlt : k < s.size
    · have hb := nmB_iff s[k]
      have HB := hid hb
      clear hb
      have hno : nmB s[k] = false → isName s.data.toList = false := fun hb => by
        rw [← Bool.not_eq_true]; intro h
        have := List.all_eq_true.1 (isName_all h) s[k] (by rw [byte_at]; exact List.getElem_mem _)
        rw [hb] at this; cases this
      have HN := hid hno
      clear hno
      have hyes : nmB s[k] = true → (s.data.toList.take (k + 1)).all nmB = true := fun hb => by
        rw [List.take_succ_eq_append_getElem (by simpa using hlt), List.all_append, HA.out]
        simp; exact hb
      have HY := hid hyes
      clear hyes
      go_wp2
      all_goals first
        | (go_roundg (s.size - (k + 1))
           case rel => exact ⟨k + 1, rfl, by omega, by go_num, HY.out (by rw [HB.out, decide_eq_true_iff]; first | omega | (rcases ‹_ ∨ _› with h1 | h1 <;> simp at h1 <;> omega) | (have h9 := ‹(!decide _) = false›; simp at h9; omega)), rfl⟩
           case measure => have := HM.out; omega)
        | (go_ret
           refine ⟨ret_bool ?_, rfl⟩
           rw [HN.out (by rw [HB.out, decide_eq_false_iff_not]; first | omega | (obtain ⟨h1, h2⟩ := ‹_ ∧ _›; simp at h1 h2; omega) | (rename_i h1 h2; simp at h1 h2; omega) | (rename_i h2 h1; simp at h1; omega) | (simp only [Bool.not_eq_true', decide_eq_false_iff_not] at *; omega))])
    · obtain rfl : k = s.size := by omega
      have hall : s.data.toList.all nmB = true := by have := HA.out; rwa [List.take_of_length_le (by simp)] at this
      have HL := hid hall
      clear hall
      go_wp2_with (go_at_call 83; refine (l6In_any _ _ _ _).mono ?_; rintro e w' ⟨rfl, rfl⟩)
      go_ret
      refine ⟨ret_bool ?_, rfl⟩
      unfold isName
      rw [HL.out, Bool.eq_iff_iff]
      simp
      omega
end Go.Proofs.YtoleonldkifcbaaGreatDoor
namespace Go.Proofs.YtoleonldkifcbaaGreatDoor
open Go.RowKit

theorem inf_string : (Tryz.prog.info? 9).map (fun i => (i.zero, i.size, i.bytes)) = some (some (.string ⟨#[]⟩), 1, 16) := by kernel_rfl

/-- append of one string to a row of the call's own. -/
theorem append_str {ops : Array Oper} {rest : List Oper} {o : Oper} {a : Act} {w : World} {Q : Exit → Act → World → Prop} (hgd : o.guard = none) (s x : Operand)
    (ho : o.op = .call { callee := .builtin .append, args := #[s, x], argTypes := #[45, 45] })
    (base : Nat) (v : Value) (n : Nat) (xs : List Value) (hs : a.eval s = v) (hown : w.ownsRow base 9 1 v n xs)
    (g : Nat) (y : ByteArray) (hx : a.eval x = .slice (some ⟨g, 0, none⟩) 1 1) (hy : w.cell? ⟨g, 0, none⟩ = some (.string y)) (hn : n ≤ bigN) (hbase : base ≤ w.heap.size)
    (h : ∀ v' w', w'.ownsRow base 9 1 v' (n + 1) (xs ++ [.string y]) → w.grownBy w' v.ownBlock → wpList Tryz.prog ops Q rest (a.put o.dst v') w') : wpList Tryz.prog ops Q (o :: rest) a w := by
  obtain ⟨i0, hi, hz0, hz1, hz2⟩ := info_parts inf_string
  refine wpList_append_own w hgd s x 45 ho base 9 i0 _ 1 16 Tryz.underlying45 hi hz0 hz1 hz2 rfl (by decide) v n xs hs hown ⟨g, 0, none⟩ 1 1 [.string y] hx rfl ?_ ?_ ?_ ?_ hbase (fun v' w' h1 h2 _ => h v' w' h1 h2)
  · intro j u hj
    cases j with
    | zero => simp at hj; subst hj; simpa [Addr.add] using hy
    | succ j => simp at hj
  · simp [Value.oneCell']
  · unfold bigN at hn; unfold maxLen; omega
  · unfold bigN at hn; omega

/-- The string value of a list of bytes. -/
def sv (l : List UInt8) : Value := .string (bs l)

theorem own_open {w : World} {base : Nat} {e : TypeId} {size : Nat} {v : Value} {n : Nat} {xs : List Value} (h : w.ownsRow base e size v n xs) (hn : 0 < n) :
    ∃ g cap, v = .slice (some ⟨g, 0, none⟩) n cap ∧ base ≤ g ∧ g < w.heap.size ∧ n ≤ cap ∧ cap ≤ maxLen ∧ ∀ j, w.cell? ⟨g, j, none⟩ = xs[j]? ∨ n * size ≤ j := by
  obtain ⟨h1, h2⟩ := h
  rcases h2 with ⟨_, h0⟩ | ⟨g, cap, cur, hv, hg, hh, hc, hm, hs, ht⟩
  · omega
  · refine ⟨g, cap, hv, hg, lt_of_block hh, hc, hm, fun j => ?_⟩
    rcases Nat.lt_or_ge j (n * size) with hj | hj
    · left
      rw [cell_of_block hh, ← ht, List.getElem?_take_of_lt hj]
      simp
    · exact .inr hj

theorem l1Cut_any (s : ByteArray) (c : Int) (u : UInt8) (hc : c = u.toNat) (w : World) (hs : s.size ≤ bigN) :
    Calls Tryz.prog 29 #[.string s, .int .u8 c] w fun e w' => ∃ v, e = .returned v ∧ w'.ownsRow w.heap.size 9 1 v (cutB u s.data.toList).length ((cutB u s.data.toList).map sv) ∧ Kept [] w w' := by
  subst hc
  have hs' := Nat.le_trans hs bigN_le
  unfold maxLen at hs'
  go_enter Tryz.func29, Tryz.ntmps29
  go_wp2
  go_loopg [5, 6, 7] s.size (fun m v fr i wr => ∃ (k f : Nat) (D : List (List UInt8)), m = s.size - k ∧ k ≤ s.size ∧ f ≤ k ∧ fr = .int .i64 f ∧ i = .int .i64 k ∧ D.length ≤ k ∧
      cutB u s.data.toList = D ++ cutB u (s.data.toList.drop f) ∧ u ∉ (s.data.toList.drop f).take (k - f) ∧ wr.ownsRow w.heap.size 9 1 v D.length (D.map sv) ∧ Kept [] w wr)
  case atStart =>
    exact ⟨0, 0, [], rfl, Nat.zero_le _, Nat.le_refl _, rfl, rfl, Nat.le_refl _, by simp, by simp, World.ownsRow_made w #[] 0 (Nat.le_refl _) (Nat.zero_le _) rfl, (Kept.refl _ _).alloc _⟩
  case round =>
    obtain ⟨k, f, D, hm, hk, hf, rfl, rfl, hD, hcut, hno, hown, hK⟩ := hrel
    have HM := hid hm
    have HC := hid hcut
    have HN := hid hno
    have HK := hid hK
    clear hm hcut hno hK
    by_cases hlt : k < s.size
    · by_cases hb : s[k] = u
      · have hb' : ((s[k].toNat : Int) == (u.toNat : Int)) = true := by simp [hb]
        have HB := hid hb
        clear hb
        go_wp2_with (at_builtin; refine append_str rfl (.tmp 20) (.tmp 25) rfl w.heap.size u5 D.length (D.map sv) rfl (hown.alloc _) wr.heap.size (s.extract f k) rfl (cell_new1 _ _ _) (by omega) (le_alloc HK.out.size _) ?_; intro v' w1 hown1 hgrow)
        go_roundg (s.size - (k + 1))
        case measure => have := HM.out; omega
        case rel =>
          refine ⟨k + 1, k + 1, D ++ [(s.data.toList.drop f).take (k - f)], rfl, by omega, Nat.le_refl _, by go_num, by go_num, by simp; omega, ?_, by simp, ?_, ?_⟩
          · have h1 : s.data.toList.drop f = (s.data.toList.drop f).take (k - f) ++ u :: s.data.toList.drop (k + 1) := by
              have h2 := List.take_append_drop (k - f) (s.data.toList.drop f)
              rw [List.drop_drop, show f + (k - f) = k by omega, List.drop_eq_getElem_cons (i := k) (by simpa using hlt)] at h2
              rw [show s.data.toList[k]'(by simpa using hlt) = u from HB.out] at h2
              exact h2.symm
            rw [HC.out]
            conv => lhs; rw [h1]
            rw [cutB_free _ _ _ HN.out]; simp
          · simp only [List.map_append, List.map_cons, List.map_nil, List.length_append, List.length_cons, List.length_nil]
            unfold sv; rw [← extract_bs]; exact hown1
          · exact (HK.out.alloc _).own (hown.alloc _) hgrow (Nat.le_refl _)
      · have hb' : ((s[k].toNat : Int) == (u.toNat : Int)) = false := by
          rw [beq_eq_false_iff_ne]; intro e; exact hb (UInt8.toNat_inj.1 (by omega))
        have HB := hid hb
        clear hb
        go_wp2
        go_roundg (s.size - (k + 1))
        case measure => have := HM.out; omega
        case rel =>
          refine ⟨k + 1, f, D, rfl, by omega, by omega, rfl, by go_num, by omega, HC.out, ?_, hown, HK.out⟩
          rw [show k + 1 - f = (k - f) + 1 by omega, List.take_succ_eq_append_getElem (by simp; omega)]
          simp only [List.mem_append, List.mem_singleton, not_or, List.getElem_drop]
          refine ⟨HN.out, fun e => HB.out ?_⟩
          rw [e, byte_at]
          simp only [show f + (k - f) = k by omega]
    · obtain rfl : k = s.size := by omega
      have hfin : cutB u (s.data.toList.drop f) = [s.data.toList.drop f] := cutB_none _ _ (by
        have := HN.out; rwa [List.take_of_length_le (by simp)] at this)
      have HF := hid hfin
      clear hfin
      go_wp2_with (at_builtin; refine append_str rfl (.tmp 29) (.tmp 33) rfl w.heap.size u5 D.length (D.map sv) rfl (hown.alloc _) wr.heap.size (s.extract f s.size) rfl (cell_new1 _ _ _) (by omega) (le_alloc HK.out.size _) ?_; intro v' w1 hown1 hgrow)
      go_ret
      refine ⟨v', rfl, ?_, (HK.out.alloc _).own (hown.alloc _) hgrow (Nat.le_refl _)⟩
      rw [HC.out, HF.out]
      simp only [List.map_append, List.map_cons, List.map_nil, List.length_append, List.length_cons, List.length_nil]
      have he : s.extract f s.size = bs (s.data.toList.drop f) := by
        rw [extract_bs, List.take_of_length_le (by simp)]
      unfold sv at *; rw [← he]; exact hown1

/-- What a row of strings holds. -/
theorem own_strs {w : World} {base : Nat} {v : Value} {L : List (List UInt8)} (h : w.ownsRow base 9 1 v L.length (L.map sv)) (hn : 0 < L.length) :
    ∃ g cap, v = .slice (some ⟨g, 0, none⟩) L.length cap ∧ base ≤ g ∧ g < w.heap.size ∧ ∀ j (hj : j < L.length), w.cell? ⟨g, j, none⟩ = some (.string (bs L[j])) := by
  obtain ⟨g, cap, hv, hg, hh, _, _, hc⟩ := own_open h hn
  refine ⟨g, cap, hv, hg, hh, fun j hj => ?_⟩
  rcases hc j with h1 | h1
  · rw [h1]; simp [hj, sv]
  · omega

/-- A slice value that holds strings. -/
def StrsAt (lo : Nat) (w : World) (v : Value) (l : List (List UInt8)) : Prop :=
  ∃ a cap b off, v = .slice a l.length cap ∧ l.length ≤ bigN ∧ l.length ≤ cap ∧ (0 < l.length → a = some ⟨b, off, none⟩ ∧ lo ≤ b ∧ b < w.heap.size) ∧
    ∀ j (h : j < l.length), w.cell? ⟨b, off + j, none⟩ = some (.string (bs l[j])) ∧ l[j].length ≤ bigN

theorem StrsAt.kept {lo : Nat} {w w' : World} {v : Value} {l : List (List UInt8)} {bs : List Nat} (h : StrsAt lo w v l) (k : Kept bs w w') (hb : ∀ b ∈ bs, b < lo ∨ w.heap.size ≤ b) : StrsAt lo w' v l := by
  obtain ⟨a, cap, b, off, hv, hl, hc, ha, hcl⟩ := h
  refine ⟨a, cap, b, off, hv, hl, hc, fun h0 => ⟨(ha h0).1, (ha h0).2.1, Nat.lt_of_lt_of_le (ha h0).2.2 k.size⟩, fun j hj => ?_⟩
  have h1 := (ha (by omega)).2
  have hn : b ∉ bs := fun e => by rcases hb b e with h2 | h2 <;> omega
  obtain ⟨c0, c1⟩ := hcl j hj
  exact ⟨k.cell_some c0 hn, c1⟩
theorem StrsAt.kept0 {lo : Nat} {w w' : World} {v : Value} {l : List (List UInt8)} (h : StrsAt lo w v l) (k : Kept [] w w') : StrsAt lo w' v l := h.kept k (by simp)

/-- The first ones of a slice. -/
theorem StrsAt.take {lo : Nat} {w : World} {a : Option Addr} {n cap : Nat} {l : List (List UInt8)} (h : StrsAt lo w (.slice a n cap) l) (k : Nat) (hk : k ≤ l.length) : StrsAt lo w (.slice a k cap) (l.take k) := by
  obtain ⟨a', cap', b, off, hv, hl, hc, ha, hcl⟩ := h
  injection hv with e1 e2 e3
  subst e1 e2 e3
  have hlen : (l.take k).length = k := by simp; omega
  refine ⟨a, cap, b, off, by rw [hlen], by omega, by omega, fun h0 => ha (by omega), fun j hj => ?_⟩
  have := hcl j (by omega)
  simpa using this

/-- A slice of strings is a slice, at whatever place. -/
theorem StrsAt.form {lo : Nat} {w : World} {v : Value} {l : List (List UInt8)} (h : StrsAt lo w v l) : ∃ a cap, v = .slice a l.length cap := by
  obtain ⟨a, cap, b, off, hv, _⟩ := h; exact ⟨a, cap, hv⟩

theorem strs_own {w : World} {base : Nat} {v : Value} {L : List (List UInt8)} (h : w.ownsRow base 9 1 v L.length (L.map sv)) (hl : L.length ≤ bigN) (he : ∀ x ∈ L, x.length ≤ bigN) : StrsAt 0 w v L := by
  rcases Nat.eq_zero_or_pos L.length with h0 | h0
  · obtain ⟨-, h2⟩ := h
    rcases h2 with ⟨hv, -⟩ | ⟨g, cap, cur, hv, -, -, hc, -⟩
    · exact ⟨none, 0, 0, 0, by rw [hv, h0], hl, by omega, fun h1 => by omega, fun j hj => by omega⟩
    · exact ⟨_, cap, 0, 0, hv, hl, hc, fun h1 => by omega, fun j hj => by omega⟩
  · obtain ⟨g, cap, hv, hg, hh, hc, -, -⟩ := own_open h h0
    obtain ⟨g', cap', hv', -, -, hcl⟩ := own_strs h h0
    rw [hv] at hv'
    injection hv' with e1 e2 e3
    injection e1 with e1
    injection e1 with e1
    subst e1
    exact ⟨_, cap, g, 0, hv, hl, hc, fun _ => ⟨rfl, Nat.zero_le _, hh⟩, fun j hj => ⟨by rw [Nat.zero_add]; exact hcl j hj, he _ (List.getElem_mem hj)⟩⟩
theorem StrsAt.low {lo lo' : Nat} {w : World} {v : Value} {l : List (List UInt8)} (h : StrsAt lo w v l) (hl : lo' ≤ lo) : StrsAt lo' w v l := by
  obtain ⟨a, cap, b, off, hv, hl1, hc, ha, hcl⟩ := h
  exact ⟨a, cap, b, off, hv, hl1, hc, fun h0 => ⟨(ha h0).1, Nat.le_trans hl (ha h0).2.1, (ha h0).2.2⟩, hcl⟩
theorem strs_noneN (lo : Nat) (w : World) (a : Option Addr) (cap : Nat) : StrsAt lo w (.slice a 0 cap) [] :=
  ⟨a, cap, 0, 0, rfl, Nat.zero_le _, Nat.zero_le _, fun h => absurd h (by simp), fun j hj => absurd hj (by simp)⟩
theorem strs_none (w : World) (a : Option Addr) (cap : Nat) : StrsAt 0 w (.slice a 0 cap) [] :=
  ⟨a, cap, 0, 0, rfl, Nat.zero_le _, Nat.zero_le _, fun h => absurd h (by simp), fun j hj => absurd hj (by simp)⟩

theorem str_eq (s : ByteArray) (l : List UInt8) : (s.toList == l) = decide (s.data.toList = l) := by
  rw [ByteArray.toList_eq, Bool.eq_iff_iff]; simp

/-- A goal at a world of which no more is needed than C. -/
theorem gen_world {R : World → Prop} {W : World} (C : World → Prop) (hC : C W) (h : ∀ W', C W' → R W') : R W := h W hC

theorem l1Cut32_any (s : List UInt8) (w : World) (hs : s.length + 1 ≤ bigN) :
    Calls Tryz.prog 29 #[.string (bs s), .int .u8 32] w fun e w' => ∃ a cap, e = .returned (.slice a (cutB 32 s).length cap) ∧ StrsAt 0 w' (.slice a (cutB 32 s).length cap) (cutB 32 s) ∧ Kept [] w w' := by
  have h := l1Cut_any (bs s) 32 32 rfl w (by rw [bs_size]; omega)
  rw [bs_toList] at h
  refine h.mono ?_
  rintro e w' ⟨v, rfl, hown, hK⟩
  have hlen := cutB_len 32 s
  have hS := strs_own hown (by omega) (fun x hx => Nat.le_trans (cutB_part 32 s x hx) (by omega))
  obtain ⟨a, cap, rfl⟩ := hS.form
  exact ⟨a, cap, rfl, hS, hK⟩


/-- append of elements that lie in a new row, whatever their type. -/
theorem append_gen (T E : TypeId) (z : Value) (size bytes : Nat) (hT : Tryz.prog.underlying T = some (.slice E)) (hE : (Tryz.prog.info? E).map (fun i => (i.zero, i.size, i.bytes)) = some (some z, size, bytes))
    (hz : z.cells.size = size) (h0 : 0 < size) (h1 : bytes ≤ 1000)
    {ops : Array Oper} {rest : List Oper} {o : Oper} {a : Act} {w : World} {Q : Exit → Act → World → Prop} (hgd : o.guard = none) (s x : Operand)
    (ho : o.op = .call { callee := .builtin .append, args := #[s, x], argTypes := #[T, T] })
    (base : Nat) (v : Value) (n : Nat) (xs : List Value) (hs : a.eval s = v) (hown : w.ownsRow base E size v n xs)
    (g0 m cap0 : Nat) (news : List Value) (hx : a.eval x = .slice (some ⟨g0, 0, none⟩) m cap0) (cs : Array Value) (fz : Nat × Nat) (hb : w.heap[g0]? = some (.cells cs E fz)) (hcs : cs.toList.take (m * size) = news) (hm : news.length = m * size) (hu : ∀ u ∈ news, u.oneCell' = true) (hn : n + m ≤ bigN) (hn0 : 0 < n + m) (hbase : base ≤ w.heap.size)
    (h : ∀ g cap w', w'.ownsRow base E size (.slice (some ⟨g, 0, none⟩) (n + m) cap) (n + m) (xs ++ news) → w.grownBy w' v.ownBlock → wpList Tryz.prog ops Q rest (a.put o.dst (.slice (some ⟨g, 0, none⟩) (n + m) cap)) w') : wpList Tryz.prog ops Q (o :: rest) a w := by
  obtain ⟨i0, hi, hz0, hz1, hz2⟩ := info_parts hE
  refine wpList_append_own w hgd s x T ho base E i0 z size bytes hT hi hz0 hz1 hz2 hz h0 v n xs hs hown ⟨g0, 0, none⟩ m cap0 news hx hm ?_ hu ?_ ?_ hbase (fun v' w' h1 h2 _ => ?_)
  · intro j u hj
    rw [Addr.add_lit, Nat.zero_add, cell_of_block hb]
    rw [← hcs] at hj
    rw [List.getElem?_take] at hj
    split at hj
    · simpa using hj
    · cases hj
  · unfold bigN at hn; unfold maxLen; omega
  · unfold bigN at hn
    refine Nat.le_trans (Nat.mul_le_mul hn h1) (by decide)
  · obtain ⟨g, cap, rfl, -⟩ := own_open h1 hn0
    exact h g cap w' h1 h2
/-- The cells of rows of equal length. -/
theorem flat_get {α : Type} (f : α → List Value) (k : Nat) (hf : ∀ a, (f a).length = k) (l : List α) (j i : Nat) (hj : j < l.length) (hi : i < k) : (l.flatMap f)[j * k + i]? = (f l[j])[i]? := by
  induction l generalizing j with
  | nil => simp at hj
  | cons a t ih =>
    rw [List.flatMap_cons]
    cases j with
    | zero => rw [List.getElem?_append_left (by rw [hf]; omega)]; simp
    | succ j =>
      rw [List.getElem?_append_right (by rw [hf, Nat.succ_mul]; omega), hf]
      have := ih j (by simpa using hj)
      rw [show (j + 1) * k + i - k = j * k + i by rw [Nat.succ_mul]; omega, this]
      simp
theorem flat_len {α : Type} (f : α → List Value) (k : Nat) (hf : ∀ a, (f a).length = k) (l : List α) : (l.flatMap f).length = l.length * k := by
  induction l with
  | nil => simp
  | cons a t ih => rw [List.flatMap_cons, List.length_append, hf, ih, List.length_cons, Nat.succ_mul]; omega
theorem own_kept {w w' : World} {base : Nat} {e : TypeId} {size : Nat} {v : Value} {n : Nat} {xs : List Value} (h : w.ownsRow base e size v n xs) {bs : List Nat} (k : Kept bs w w') (hb : ∀ b ∈ bs, b < base) : w'.ownsRow base e size v n xs := by
  obtain ⟨h1, h2⟩ := h
  refine ⟨h1, ?_⟩
  rcases h2 with h2 | ⟨g, cap, cur, hv, hg, hh, rest⟩
  · exact .inl h2
  · refine .inr ⟨g, cap, cur, hv, hg, ?_, rest⟩
    exact k.same hh (fun e => by have := hb g e; omega)
theorem own_none (w : World) (base g : Nat) (hg : g = w.heap.size) (h : base ≤ g) : (w.alloc (.cells #[] 9)).ownsRow base 9 1 (.slice (some ⟨g, 0, none⟩) 0 0) 0 [] := by
  subst hg
  exact ⟨rfl, .inr ⟨w.heap.size, 0, #[], rfl, h, new_block w _, by omega, by unfold maxLen; omega, rfl, rfl⟩⟩
theorem new_block2 (w : World) (o o' : Obj) : ((w.alloc o).alloc o').heap[w.heap.size + 1]? = some o' := by
  have := new_block (w.alloc o) o'; simpa using this
/-- make of a row of zero values. -/
theorem run_make_gen (T E : TypeId) (z : Value) (size bytes : Nat) (hT : Tryz.prog.underlying T = some (.slice E)) (hE : (Tryz.prog.info? E).map (fun i => (i.zero, i.size, i.bytes)) = some (some z, size, bytes)) (h1 : bytes ≤ 1000)
    (n c : Nat) (hnc : n ≤ c) (hn : c ≤ bigN) (w : World) :
    (Instr.makeSlice T (.int .i64 (n : Int)) (.int .i64 (c : Int))).run Tryz.prog w = .ok (.slice (some ⟨w.heap.size, 0, none⟩) n c) (w.alloc (.cells (madeCells z.cells (c * size)) E)) := by
  obtain ⟨i0, hi, hz0, hz1, hz2⟩ := info_parts hE
  unfold bigN at hn
  have hb : bytes * c ≤ 281474976710656 := Nat.le_trans (Nat.mul_le_mul h1 hn) (by decide)
  have hb' : (i0.bytes : Int) * (c : Int) ≤ 281474976710656 := by
    rw [hz2]; have h : ((bytes * c : Nat) : Int) ≤ 281474976710656 := by omega
    rwa [Int.natCast_mul] at h
  have hr := run_make (P := Tryz.prog) w T E i0 z hT hi hz0 .i64 .i64 n c (by omega) (by omega) hb' (by omega)
  simp only [Int.toNat_natCast, hz1] at hr
  exact hr
theorem made_size (a : Array Value) (n : Nat) : (madeCells a n).size = n := size_madeCells _ _
theorem wraps_i64_31 (n : Int) (h₀ : 0 ≤ n) (h₁ : n < 2 ^ 31) : IntKind.i64.wrap n = n := by rw [IntKind.wrap_i64]; omega
end Go.Proofs.YtoleonldkifcbaaGreatDoor
