/- The walks of the reader of keys (spec): leaves and nodes. -/
import Derived.Test.YtoleonldkifcbaaGreatDoorKKe
namespace Go.Proofs.YtoleonldkifcbaaGreatDoor
open Go.RowKit

theorem wordFl_at {x : List UInt8} {j : Nat} (hj : j < 5) (h : x = wordN j) : wordFl x = some (bitN j) := by
  subst h
  obtain rfl | rfl | rfl | rfl | rfl : j = 0 ∨ j = 1 ∨ j = 2 ∨ j = 3 ∨ j = 4 := by omega
  all_goals rfl
theorem wordFl_no {x : List UInt8} (h : ∀ j, j < 5 → x ≠ wordN j) : wordFl x = none := by
  have h0 : x ≠ tSeen := h 0 (by omega)
  have h1 : x ≠ tAnswered := h 1 (by omega)
  have h2 : x ≠ tFlagged := h 2 (by omega)
  have h3 : x ≠ tDeleted := h 3 (by omega)
  have h4 : x ≠ tDraft := h 4 (by omega)
  unfold wordFl
  rw [if_neg h0, if_neg h1, if_neg h2, if_neg h3, if_neg h4]
theorem headD_drop (L : List (List UInt8)) (p : Nat) (h : p < L.length) : (L.drop p).headD [] = L[p] := by
  rw [List.drop_eq_getElem_cons h]; rfl
theorem headD_over (L : List (List UInt8)) (p : Nat) (h : ¬ p < L.length) : (L.drop p).headD [] = [] := by
  rw [List.drop_eq_nil_of_le (by omega)]; rfl
theorem leaf_flag {x : List UInt8} {ws : List (List UInt8)} {j : Nat} {w w' : World} (hj : j < 5) (h : x = wordN j) (hK : Kept [] w w') :
    LeafRes (leafS x ws) ws w (.returned (.tuple #[.agg #[.int .i64 1, .int .i64 (bitN j), .string ⟨#[]⟩, .slice none 0 0, .slice none 0 0], .int .i64 1])) w' := by
  unfold leafS
  rw [wordFl_at hj h]
  exact ⟨.mk 1 (bitN j) [] [] [], _, _, 1, rfl, hK, keyX_leaf _ _ _ _ _ (Nat.zero_le _) (spansX_none _ _ _), rfl, .inl rfl, rfl, Nat.zero_le _⟩

theorem leaf_flag' {x : List UInt8} {ws : List (List UInt8)} {j : Nat} {bj : Int} {w w' : World} (hj : j < 5) (h : x = wordN j) (hb : bitN j = bj) (hK : Kept [] w w') :
    LeafRes (leafS x ws) ws w (.returned (.tuple #[.agg #[.int .i64 1, .int .i64 bj, .string ⟨#[]⟩, .slice none 0 0, .slice none 0 0], .int .i64 1])) w' := by
  subst hb; exact leaf_flag hj h hK

set_option maxRecDepth 100000 in
set_option maxHeartbeats 8000000 in
theorem l12Leaf_any (L : List (List UInt8)) (wv : Value) (p : Nat) (hp : p < L.length) (w : World) (hS : StrsAt 0 w wv L) (hL : ∀ x ∈ L, x.length + 1 ≤ bigN) :
    Calls Tryz.prog 51 #[wv, .int .i64 p] w (LeafRes (leafS L[p] (L.drop (p + 1))) (L.drop (p + 1)) w) := by
  obtain ⟨a, cap, b, off, rfl, hl, hcp, ha, hc⟩ := hS
  obtain ⟨rfl, -, hbw⟩ := ha (by omega)
  have c0 := (hc p hp).1
  have hl63 : L.length ≤ 2 ^ 63 - 1 := by have := Nat.le_trans hl bigN_le; unfold maxLen at this; exact this
  have hb62 : bigN ≤ 2 ^ 62 := by decide
  have hlb : L.length + 1 ≤ 9223372036854775807 := by omega
  obtain ⟨ws, hws⟩ : ∃ ws, L.drop (p + 1) = ws := ⟨_, rfl⟩
  obtain ⟨x, hx⟩ : ∃ x, L[p] = x := ⟨_, rfl⟩
  rw [hx] at c0
  rw [hx, hws]
  have i1 : (p : Int) < L.length := by omega
  have i4 : p < cap := by omega
  have HZ := hid (new_block w (Obj.cells #[.int .i64 0, .int .i64 0, .string ⟨#[]⟩, .slice none 0 0, .slice none 0 0] 26))
  have KA := hid ((Kept.refl [] w).alloc (Obj.cells #[.int .i64 0, .int .i64 0, .string ⟨#[]⟩, .slice none 0 0, .slice none 0 0] 26))
  have HZB := hid (alloc_block HZ.out namesB)
  have HNB := hid (new_block2 w (Obj.cells #[.int .i64 0, .int .i64 0, .string ⟨#[]⟩, .slice none 0 0, .slice none 0 0] 26) namesB)
  have KB := hid (KA.out.alloc namesB)
  have HC0 := hid c0
  by_cases hn : p + 1 < L.length
  · have c1 := (hc (p + 1) hn).1
    have c1 := KA.out.cell_some c1 (by simp)
    obtain ⟨nx, hnx⟩ : ∃ nx, L[p + 1] = nx := ⟨_, rfl⟩
    have HNX : Hid (ws.headD [] = nx) := by show _ = _; rw [← hws, headD_drop L _ hn, hnx]
    rw [hnx] at c1
    have i2 : (p : Int) + 1 < L.length := by omega
    have i5 : p + 1 < cap := by omega
    have hnl : nx.length + 1 ≤ bigN := by rw [← hnx]; exact hL _ (List.getElem_mem _)
    have HNL := hid hnl
    have HWL : Hid (nx ≠ [] → 1 ≤ ws.length) := fun _ => by rw [← hws, List.length_drop]; omega
    clear hnx hc ha hws hx hcp hnl hb62 hL
    go_enter Tryz.func51, Tryz.ntmps51
    go_wp2
    go_loopg [8] 5 (fun m i W => ∃ j : Nat, m = 5 - j ∧ j ≤ 5 ∧ i = .int .i64 j ∧ (∀ q, q < j → x ≠ wordN q) ∧ Kept [] w W ∧
      W.heap[w.heap.size]? = some (.cells #[.int .i64 0, .int .i64 0, .string ⟨#[]⟩, .slice none 0 0, .slice none 0 0] 26 (0, 0)) ∧ W.heap[w.heap.size + 1]? = some namesB)
    case atStart => exact ⟨0, rfl, Nat.zero_le _, rfl, fun q hq => absurd hq (Nat.not_lt_zero _), by first | exact KB.out | (rw [← HNE.out]; exact KB.out), by first | exact HZB.out | (rw [← HNE.out]; exact HZB.out), by first | exact HNB.out | (rw [← HNE.out]; exact HNB.out)⟩
    case round =>
      obtain ⟨j, hm, hj, rfl, hno, hK, hz, hnb⟩ := hrel
      have HM := hid hm
      have HNO := hid hno
      have HK := hid hK
      have HZW := hid hz
      have HNW := hid hnb
      have hzl := lt_of_block hz
      have hnbl := lt_of_block hnb
      have c0 := hK.cell_some HC0.out (by simp)
      clear hm hno hK
      by_cases hlt : j < 5
      · have nj := names_get hnb j hlt
        clear hnb
        have i3 : (j : Int) < 5 := by omega
        by_cases hxw : x = wordN j
        · have hq : ((bs x).toList == (bs (wordN j)).toList) = true := by rw [beq_bs', decide_eq_true_eq]; exact hxw
          have HXW := hid hxw
          have HL := hid (fun W => l4Bit_any j hlt W)
          obtain ⟨bj, hbj⟩ : ∃ v, bitN j = v := ⟨_, rfl⟩
          have HBJ := hid hbj
          rw [hbj] at HL
          clear hbj
          have z0 := cell_of_block hz 0
          have z1 := cell_of_block hz 1
          have z2 := cell_of_block hz 2
          have z3 := cell_of_block hz 3
          have z4 := cell_of_block hz 4
          simp at z0 z1 z2 z3 z4
          clear hz hxw
          generalize wordN j = wj at nj hq
          go_wp2
          go_quiet (fail)
          go_wp2_with fail
          refine (HL.out _).mono ?_
          rintro e w2 ⟨rfl, hK2⟩
          have HZ2 := hid (hK2.same HZW.out (by simp))
          have HK2 := hid ((HK.out.drewN _).trans hK2)
          have hz2 := hK2.same HZW.out (by simp)
          have z0 := cell_of_block hz2 0
          have z1 := cell_of_block hz2 1
          have z2 := cell_of_block hz2 2
          have z3 := cell_of_block hz2 3
          have z4 := cell_of_block hz2 4
          have f0 := frozen_of_block hz2 0
          have f1 := frozen_of_block hz2 1
          have f2 := frozen_of_block hz2 2
          have f3 := frozen_of_block hz2 3
          have f4 := frozen_of_block hz2 4
          have hzl := lt_of_block hz2
          simp at z0 z1 z2 z3 z4
          clear hz2 hK2
          go_wp2
          refine bodyPost_ret (v := .tuple #[.agg #[.int .i64 1, .int .i64 bj, .string ⟨#[]⟩, .slice none 0 0, .slice none 0 0], .int .i64 1]) (by simp [results, Tryz.results51, go_sem, z0, z1, z2, z3, z4]) rfl ?_
          refine leaf_flag' hlt HXW.out HBJ.out ?_
          repeat' with_reducible first | exact HK2.out | refine Kept.alloc ?_ _ | refine Kept.setCell ?_ _ _ (by first | (simp; done) | (simp; omega))
        · have hq : ((bs x).toList == (bs (wordN j)).toList) = false := by rw [beq_bs', decide_eq_false_iff_not]; exact hxw
          have HXW := hid hxw
          clear hz hxw
          obtain ⟨wj, hwj⟩ : ∃ v, wordN j = v := ⟨_, rfl⟩
          have HWJ := hid hwj
          rw [hwj] at nj hq
          clear hwj
          go_wp2
          go_quiet (fail)
          go_wp2
          go_roundg (5 - (j + 1))
          case measure => rw [HM.out]; omega
          case rel =>
            refine ⟨j + 1, rfl, by omega, by go_num, fun q hq => ?_, HK.out.drewN _, by simpa using HZW.out, by simpa using HNW.out⟩
            by_cases hqj : q = j
            · subst hqj; exact HXW.out
            · exact HNO.out q (by omega)
      · obtain rfl : j = 5 := by omega
        have HWF : Hid (wordFl x = none) := wordFl_no HNO.out
        have HSP := hid (fun W => sSetParse_any nx W HNL.out)
        have HWD := hid (fun W => l12Word_any nx W (by have := HNL.out; omega))
        clear hnb hz
        go_wp2_with fail
        refine (HSP.out _).mono ?_
        rintro e w2 ⟨sv, rfl, hK2, hO⟩
        obtain ⟨a2, cap2, rfl⟩ := own_sl hO
        have c0 := hK2.cell_some c0 (by simp)
        have hz2 := hK2.same HZW.out (by simp)
        have z0 := cell_of_block hz2 0
        have z1 := cell_of_block hz2 1
        have z2 := cell_of_block hz2 2
        have z3 := cell_of_block hz2 3
        have z4 := cell_of_block hz2 4
        have f0 := frozen_of_block hz2 0
        have f1 := frozen_of_block hz2 1
        have f2 := frozen_of_block hz2 2
        have f3 := frozen_of_block hz2 3
        have f4 := frozen_of_block hz2 4
        have hzl := lt_of_block hz2
        simp at z0 z1 z2 z3 z4
        have HO := hid hO
        have HZ2 := hid hz2
        have HK2 := hid (HK.out.trans hK2)
        clear hK2 hz2 hO
        by_cases hA : x = tAll
        · have q1 : ((bs x).toList == [97, 108, 108]) = true := str_yes hA
          have HR : Hid (leafS x ws = some (.mk 0 0 [] [] [], ws)) := by show _ = _; unfold leafS; rw [HWF.out]; simp [hA]
          clear hA
          go_wp2
          refine bodyPost_ret (v := .tuple #[.agg #[.int .i64 0, .int .i64 0, .string ⟨#[]⟩, .slice none 0 0, .slice none 0 0], .int .i64 1]) (by simp [results, Tryz.results51, go_sem, z0, z1, z2, z3, z4]) rfl ?_
          rw [HR.out]
          refine ⟨.mk 0 0 [] [] [], _, _, 1, rfl, ?_, keyX_leaf _ _ _ _ _ (Nat.zero_le _) (spansX_none _ _ _), rfl, .inl rfl, rfl, Nat.zero_le _⟩
          repeat' with_reducible first | exact HK2.out | refine Kept.alloc ?_ _ | refine Kept.setCell ?_ _ _ (by first | (simp; done) | (simp; omega))
        · have q1 : ((bs x).toList == [97, 108, 108]) = false := str_ne hA
          obtain ⟨so, hso⟩ : ∃ so, setS nx = so := ⟨_, rfl⟩
          have HSO := hid hso
          have HA := hid hA
          rw [hso]
          rw [hso] at HO
          clear hso hA HSP
          by_cases hT : x = tText
          · have q2 : ((bs x).toList == [116, 101, 120, 116]) = true := str_yes hT
            have q3 : ((bs x).toList == [97, 116]) = false := str_ne (by rw [hT]; decide)
            have q4 : ((bs x).toList == [117, 105, 100]) = false := str_ne (by rw [hT]; decide)
            obtain ⟨nv, hnv⟩ : ∃ nv, isName nx = nv := ⟨_, rfl⟩
            have HNV := hid hnv
            have HT := hid hT
            rw [hnv] at HWD
            clear hnv hT
            go_wp2_with fail
            refine (HWD.out _).mono ?_
            rintro e w3 ⟨rfl, hK3⟩
            have hz3 := hK3.same (by first | exact HZ2.out | exact hzz.out) (by simp)
            have z0 := cell_of_block hz3 0
            have z1 := cell_of_block hz3 1
            have z2 := cell_of_block hz3 2
            have z3 := cell_of_block hz3 3
            have z4 := cell_of_block hz3 4
            have f0 := frozen_of_block hz3 0
            have f1 := frozen_of_block hz3 1
            have f2 := frozen_of_block hz3 2
            have f3 := frozen_of_block hz3 3
            have f4 := frozen_of_block hz3 4
            have hzl := lt_of_block hz3
            simp at z0 z1 z2 z3 z4
            have c0 := hK3.cell_some c0 (by simp)
            have HK3 := hid (HK2.out.trans hK3)
            clear hz3 hK3
            cases nv with
            | true =>
              have HR : Hid (leafS x ws = some (.mk 2 0 nx [] [], ws.tail)) := by show _ = _; unfold leafS; rw [HWF.out, HNX.out]; simp [HT.out, HNV.out]; intro h; exact absurd h (by decide)
              have hwl := HWL.out (fun e => by have := HNV.out; rw [e] at this; revert this; decide)
              go_wp2
              refine bodyPost_ret (v := .tuple #[.agg #[.int .i64 2, .int .i64 0, .string (bs nx), .slice none 0 0, .slice none 0 0], .int .i64 2]) (by simp [results, Tryz.results51, go_sem, z0, z1, z2, z3, z4]) rfl ?_
              rw [HR.out]
              refine ⟨.mk 2 0 nx [] [], _, _, 2, rfl, ?_, keyX_leaf _ _ _ _ _ (by have := HNL.out; omega) (spansX_none _ _ _), rfl, .inr rfl, by simp, hwl⟩
              repeat' with_reducible first | exact HK3.out | refine Kept.alloc ?_ _ | refine Kept.setCell ?_ _ _ (by first | (simp; done) | (simp; omega))
            | false =>
              have HR : Hid (leafS x ws = none) := by show _ = _; unfold leafS; rw [HWF.out, HNX.out]; simp [HT.out, HNV.out, HSO.out]; cases so <;> simp [tText, tAll, tAt, tUid]
              go_wp2
              refine bodyPost_ret (v := .tuple #[.agg #[.int .i64 0, .int .i64 0, .string ⟨#[]⟩, .slice none 0 0, .slice none 0 0], .int .i64 0]) (by simp [results, Tryz.results51, go_sem, z0, z1, z2, z3, z4]) rfl ?_
              rw [HR.out]
              refine ⟨.mk 0 0 [] [] [], _, _, 0, rfl, ?_, keyX_leaf _ _ _ _ _ (Nat.zero_le _) (spansX_none _ _ _), rfl⟩
              repeat' with_reducible first | exact HK3.out | refine Kept.alloc ?_ _ | refine Kept.setCell ?_ _ _ (by first | (simp; done) | (simp; omega))
          · have q2 : ((bs x).toList == [116, 101, 120, 116]) = false := str_ne hT
            have HT := hid hT
            clear hT
            cases so with
            | none =>
              have HR : Hid (leafS x ws = none) := by show _ = _; unfold leafS; rw [HWF.out, HNX.out]; simp [HA.out, HT.out, HSO.out]
              by_cases hat : x = tAt
              · have q3 : ((bs x).toList == [97, 116]) = true := str_yes hat
                have q4 : ((bs x).toList == [117, 105, 100]) = false := str_ne (by rw [hat]; decide)
                clear hat
                go_wp2
                refine bodyPost_ret (v := .tuple #[.agg #[.int .i64 0, .int .i64 0, .string ⟨#[]⟩, .slice none 0 0, .slice none 0 0], .int .i64 0]) (by simp [results, Tryz.results51, go_sem, z0, z1, z2, z3, z4]) rfl ?_
                rw [HR.out]
                refine ⟨.mk 0 0 [] [] [], _, _, 0, rfl, ?_, keyX_leaf _ _ _ _ _ (Nat.zero_le _) (spansX_none _ _ _), rfl⟩
                repeat' with_reducible first | exact HK2.out | refine Kept.alloc ?_ _ | refine Kept.setCell ?_ _ _ (by first | (simp; done) | (simp; omega))
              · have q3 : ((bs x).toList == [97, 116]) = false := str_ne hat
                clear hat
                by_cases hu : x = tUid
                · have q4 : ((bs x).toList == [117, 105, 100]) = true := str_yes hu
                  clear hu
                  go_wp2
                  refine bodyPost_ret (v := .tuple #[.agg #[.int .i64 0, .int .i64 0, .string ⟨#[]⟩, .slice none 0 0, .slice none 0 0], .int .i64 0]) (by simp [results, Tryz.results51, go_sem, z0, z1, z2, z3, z4]) rfl ?_
                  rw [HR.out]
                  refine ⟨.mk 0 0 [] [] [], _, _, 0, rfl, ?_, keyX_leaf _ _ _ _ _ (Nat.zero_le _) (spansX_none _ _ _), rfl⟩
                  repeat' with_reducible first | exact HK2.out | refine Kept.alloc ?_ _ | refine Kept.setCell ?_ _ _ (by first | (simp; done) | (simp; omega))
                · have q4 : ((bs x).toList == [117, 105, 100]) = false := str_ne hu
                  clear hu
                  go_wp2
                  refine bodyPost_ret (v := .tuple #[.agg #[.int .i64 0, .int .i64 0, .string ⟨#[]⟩, .slice none 0 0, .slice none 0 0], .int .i64 0]) (by simp [results, Tryz.results51, go_sem, z0, z1, z2, z3, z4]) rfl ?_
                  rw [HR.out]
                  refine ⟨.mk 0 0 [] [] [], _, _, 0, rfl, ?_, keyX_leaf _ _ _ _ _ (Nat.zero_le _) (spansX_none _ _ _), rfl⟩
                  repeat' with_reducible first | exact HK2.out | refine Kept.alloc ?_ _ | refine Kept.setCell ?_ _ _ (by first | (simp; done) | (simp; omega))
            | some d =>
              have hd6 : d.length ≤ 6 := (setOk_mem (setS_ok HSO.out)).2.2
              have HX := hid (spansX_own HO.out hd6)
              have hwl := HWL.out (fun e => by have := HSO.out; rw [e, show setS [] = none from rfl] at this; cases this)
              simp only [Option.getD_some] at HX
              by_cases hat : x = tAt
              · have q3 : ((bs x).toList == [97, 116]) = true := str_yes hat
                have HR : Hid (leafS x ws = some (.mk 3 0 [] d [], ws.tail)) := by show _ = _; unfold leafS; rw [HWF.out, HNX.out]; rw [if_neg HA.out, if_neg (fun h => HT.out h.1), HSO.out]; dsimp only; rw [if_pos hat]
                clear hat
                go_wp2
                refine bodyPost_ret (v := .tuple #[.agg #[.int .i64 3, .int .i64 0, .string ⟨#[]⟩, .slice a2 d.length cap2, .slice none 0 0], .int .i64 2]) (by simp [results, Tryz.results51, go_sem, z0, z1, z2, z3, z4]) rfl ?_
                rw [HR.out]
                refine ⟨.mk 3 0 [] d [], .slice a2 d.length cap2, .slice none 0 0, 2, rfl, ?_, keyX_leaf _ _ _ _ _ (Nat.zero_le _) ((SpansX.kept HX.out (bs := [w.heap.size]) ?_ (by have := HK.out.size; simp; omega)).wide ?_ ?_), rfl, .inr rfl, by simp, hwl⟩
                · repeat' with_reducible first | exact HK2.out | refine Kept.alloc ?_ _ | refine Kept.setCell ?_ _ _ (by first | (simp; done) | (simp; omega))
                · repeat' with_reducible first | exact Kept.refl _ _ | refine Kept.setCell ?_ _ _ (by first | (simp; done) | (simp; omega))
                · have := HK.out.size; simp; try omega
                · simp [World.setCell]
              · have q3 : ((bs x).toList == [97, 116]) = false := str_ne hat
                by_cases hu : x = tUid
                · have q4 : ((bs x).toList == [117, 105, 100]) = true := str_yes hu
                  have HR : Hid (leafS x ws = some (.mk 4 0 [] d [], ws.tail)) := by show _ = _; unfold leafS; rw [HWF.out, HNX.out]; rw [if_neg HA.out, if_neg (fun h => HT.out h.1), HSO.out]; dsimp only; rw [if_neg hat, if_pos hu]
                  clear hat hu
                  go_wp2
                  refine bodyPost_ret (v := .tuple #[.agg #[.int .i64 4, .int .i64 0, .string ⟨#[]⟩, .slice a2 d.length cap2, .slice none 0 0], .int .i64 2]) (by simp [results, Tryz.results51, go_sem, z0, z1, z2, z3, z4]) rfl ?_
                  rw [HR.out]
                  refine ⟨.mk 4 0 [] d [], .slice a2 d.length cap2, .slice none 0 0, 2, rfl, ?_, keyX_leaf _ _ _ _ _ (Nat.zero_le _) ((SpansX.kept HX.out (bs := [w.heap.size]) ?_ (by have := HK.out.size; simp; omega)).wide ?_ ?_), rfl, .inr rfl, by simp, hwl⟩
                  · repeat' with_reducible first | exact HK2.out | refine Kept.alloc ?_ _ | refine Kept.setCell ?_ _ _ (by first | (simp; done) | (simp; omega))
                  · repeat' with_reducible first | exact Kept.refl _ _ | refine Kept.setCell ?_ _ _ (by first | (simp; done) | (simp; omega))
                  · have := HK.out.size; simp; try omega
                  · simp [World.setCell]
                · have q4 : ((bs x).toList == [117, 105, 100]) = false := str_ne hu
                  have HR : Hid (leafS x ws = none) := by show _ = _; unfold leafS; rw [HWF.out, HNX.out]; simp [HA.out, HT.out, HSO.out, hat, hu]
                  clear hat hu
                  go_wp2
                  refine bodyPost_ret (v := .tuple #[.agg #[.int .i64 0, .int .i64 0, .string ⟨#[]⟩, .slice none 0 0, .slice none 0 0], .int .i64 0]) (by simp [results, Tryz.results51, go_sem, z0, z1, z2, z3, z4]) rfl ?_
                  rw [HR.out]
                  refine ⟨.mk 0 0 [] [] [], _, _, 0, rfl, ?_, keyX_leaf _ _ _ _ _ (Nat.zero_le _) (spansX_none _ _ _), rfl⟩
                  repeat' with_reducible first | exact HK2.out | refine Kept.alloc ?_ _ | refine Kept.setCell ?_ _ _ (by first | (simp; done) | (simp; omega))
  · obtain ⟨nx, hnx⟩ : ∃ nx : List UInt8, nx = [] := ⟨_, rfl⟩
    have HNX : Hid (ws.headD [] = nx) := by show _ = _; rw [← hws, headD_over L _ hn, hnx]
    have HNE : Hid ((⟨#[]⟩ : ByteArray) = bs nx) := by show _ = _; rw [hnx]; rfl
    have i2 : ¬ (p : Int) + 1 < L.length := by omega
    have HNL : Hid (nx.length + 1 ≤ bigN) := by show _ ≤ _; rw [hnx]; unfold bigN; decide
    have HWL : Hid (nx ≠ [] → 1 ≤ ws.length) := fun h => absurd hnx h
    clear hnx hc ha hws hx hcp hb62 hL
    go_enter Tryz.func51, Tryz.ntmps51
    go_wp2
    rw [HNE.out]
    go_loopg [8] 5 (fun m i W => ∃ j : Nat, m = 5 - j ∧ j ≤ 5 ∧ i = .int .i64 j ∧ (∀ q, q < j → x ≠ wordN q) ∧ Kept [] w W ∧
      W.heap[w.heap.size]? = some (.cells #[.int .i64 0, .int .i64 0, .string ⟨#[]⟩, .slice none 0 0, .slice none 0 0] 26 (0, 0)) ∧ W.heap[w.heap.size + 1]? = some namesB)
    case atStart => exact ⟨0, rfl, Nat.zero_le _, rfl, fun q hq => absurd hq (Nat.not_lt_zero _), by first | exact KB.out | (rw [← HNE.out]; exact KB.out), by first | exact HZB.out | (rw [← HNE.out]; exact HZB.out), by first | exact HNB.out | (rw [← HNE.out]; exact HNB.out)⟩
    case round =>
      obtain ⟨j, hm, hj, rfl, hno, hK, hz, hnb⟩ := hrel
      have HM := hid hm
      have HNO := hid hno
      have HK := hid hK
      have HZW := hid hz
      have HNW := hid hnb
      have hzl := lt_of_block hz
      have hnbl := lt_of_block hnb
      have c0 := hK.cell_some HC0.out (by simp)
      clear hm hno hK
      by_cases hlt : j < 5
      · have nj := names_get hnb j hlt
        clear hnb
        have i3 : (j : Int) < 5 := by omega
        by_cases hxw : x = wordN j
        · have hq : ((bs x).toList == (bs (wordN j)).toList) = true := by rw [beq_bs', decide_eq_true_eq]; exact hxw
          have HXW := hid hxw
          have HL := hid (fun W => l4Bit_any j hlt W)
          obtain ⟨bj, hbj⟩ : ∃ v, bitN j = v := ⟨_, rfl⟩
          have HBJ := hid hbj
          rw [hbj] at HL
          clear hbj
          have z0 := cell_of_block hz 0
          have z1 := cell_of_block hz 1
          have z2 := cell_of_block hz 2
          have z3 := cell_of_block hz 3
          have z4 := cell_of_block hz 4
          simp at z0 z1 z2 z3 z4
          clear hz hxw
          generalize wordN j = wj at nj hq
          go_wp2
          go_quiet (fail)
          go_wp2_with fail
          refine (HL.out _).mono ?_
          rintro e w2 ⟨rfl, hK2⟩
          have HZ2 := hid (hK2.same HZW.out (by simp))
          have HK2 := hid ((HK.out.drewN _).trans hK2)
          have hz2 := hK2.same HZW.out (by simp)
          have z0 := cell_of_block hz2 0
          have z1 := cell_of_block hz2 1
          have z2 := cell_of_block hz2 2
          have z3 := cell_of_block hz2 3
          have z4 := cell_of_block hz2 4
          have f0 := frozen_of_block hz2 0
          have f1 := frozen_of_block hz2 1
          have f2 := frozen_of_block hz2 2
          have f3 := frozen_of_block hz2 3
          have f4 := frozen_of_block hz2 4
          have hzl := lt_of_block hz2
          simp at z0 z1 z2 z3 z4
          clear hz2 hK2
          go_wp2
          refine bodyPost_ret (v := .tuple #[.agg #[.int .i64 1, .int .i64 bj, .string ⟨#[]⟩, .slice none 0 0, .slice none 0 0], .int .i64 1]) (by simp [results, Tryz.results51, go_sem, z0, z1, z2, z3, z4]) rfl ?_
          refine leaf_flag' hlt HXW.out HBJ.out ?_
          repeat' with_reducible first | exact HK2.out | refine Kept.alloc ?_ _ | refine Kept.setCell ?_ _ _ (by first | (simp; done) | (simp; omega))
        · have hq : ((bs x).toList == (bs (wordN j)).toList) = false := by rw [beq_bs', decide_eq_false_iff_not]; exact hxw
          have HXW := hid hxw
          clear hz hxw
          obtain ⟨wj, hwj⟩ : ∃ v, wordN j = v := ⟨_, rfl⟩
          have HWJ := hid hwj
          rw [hwj] at nj hq
          clear hwj
          go_wp2
          go_quiet (fail)
          go_wp2
          go_roundg (5 - (j + 1))
          case measure => rw [HM.out]; omega
          case rel =>
            refine ⟨j + 1, rfl, by omega, by go_num, fun q hq => ?_, HK.out.drewN _, by simpa using HZW.out, by simpa using HNW.out⟩
            by_cases hqj : q = j
            · subst hqj; exact HXW.out
            · exact HNO.out q (by omega)
      · obtain rfl : j = 5 := by omega
        have HWF : Hid (wordFl x = none) := wordFl_no HNO.out
        have HSP := hid (fun W => sSetParse_any nx W HNL.out)
        have HWD := hid (fun W => l12Word_any nx W (by have := HNL.out; omega))
        clear hnb hz
        go_wp2_with fail
        refine (HSP.out _).mono ?_
        rintro e w2 ⟨sv, rfl, hK2, hO⟩
        obtain ⟨a2, cap2, rfl⟩ := own_sl hO
        have c0 := hK2.cell_some c0 (by simp)
        have hz2 := hK2.same HZW.out (by simp)
        have z0 := cell_of_block hz2 0
        have z1 := cell_of_block hz2 1
        have z2 := cell_of_block hz2 2
        have z3 := cell_of_block hz2 3
        have z4 := cell_of_block hz2 4
        have f0 := frozen_of_block hz2 0
        have f1 := frozen_of_block hz2 1
        have f2 := frozen_of_block hz2 2
        have f3 := frozen_of_block hz2 3
        have f4 := frozen_of_block hz2 4
        have hzl := lt_of_block hz2
        simp at z0 z1 z2 z3 z4
        have HO := hid hO
        have HZ2 := hid hz2
        have HK2 := hid (HK.out.trans hK2)
        clear hK2 hz2 hO
        by_cases hA : x = tAll
        · have q1 : ((bs x).toList == [97, 108, 108]) = true := str_yes hA
          have HR : Hid (leafS x ws = some (.mk 0 0 [] [] [], ws)) := by show _ = _; unfold leafS; rw [HWF.out]; simp [hA]
          clear hA
          go_wp2
          refine bodyPost_ret (v := .tuple #[.agg #[.int .i64 0, .int .i64 0, .string ⟨#[]⟩, .slice none 0 0, .slice none 0 0], .int .i64 1]) (by simp [results, Tryz.results51, go_sem, z0, z1, z2, z3, z4]) rfl ?_
          rw [HR.out]
          refine ⟨.mk 0 0 [] [] [], _, _, 1, rfl, ?_, keyX_leaf _ _ _ _ _ (Nat.zero_le _) (spansX_none _ _ _), rfl, .inl rfl, rfl, Nat.zero_le _⟩
          repeat' with_reducible first | exact HK2.out | refine Kept.alloc ?_ _ | refine Kept.setCell ?_ _ _ (by first | (simp; done) | (simp; omega))
        · have q1 : ((bs x).toList == [97, 108, 108]) = false := str_ne hA
          obtain ⟨so, hso⟩ : ∃ so, setS nx = so := ⟨_, rfl⟩
          have HSO := hid hso
          have HA := hid hA
          rw [hso]
          rw [hso] at HO
          clear hso hA HSP
          by_cases hT : x = tText
          · have q2 : ((bs x).toList == [116, 101, 120, 116]) = true := str_yes hT
            have q3 : ((bs x).toList == [97, 116]) = false := str_ne (by rw [hT]; decide)
            have q4 : ((bs x).toList == [117, 105, 100]) = false := str_ne (by rw [hT]; decide)
            obtain ⟨nv, hnv⟩ : ∃ nv, isName nx = nv := ⟨_, rfl⟩
            have HNV := hid hnv
            have HT := hid hT
            rw [hnv] at HWD
            clear hnv hT
            go_wp2_with fail
            refine (HWD.out _).mono ?_
            rintro e w3 ⟨rfl, hK3⟩
            have hz3 := hK3.same (by first | exact HZ2.out | exact hzz.out) (by simp)
            have z0 := cell_of_block hz3 0
            have z1 := cell_of_block hz3 1
            have z2 := cell_of_block hz3 2
            have z3 := cell_of_block hz3 3
            have z4 := cell_of_block hz3 4
            have f0 := frozen_of_block hz3 0
            have f1 := frozen_of_block hz3 1
            have f2 := frozen_of_block hz3 2
            have f3 := frozen_of_block hz3 3
            have f4 := frozen_of_block hz3 4
            have hzl := lt_of_block hz3
            simp at z0 z1 z2 z3 z4
            have c0 := hK3.cell_some c0 (by simp)
            have HK3 := hid (HK2.out.trans hK3)
            clear hz3 hK3
            cases nv with
            | true =>
              have HR : Hid (leafS x ws = some (.mk 2 0 nx [] [], ws.tail)) := by show _ = _; unfold leafS; rw [HWF.out, HNX.out]; simp [HT.out, HNV.out]; intro h; exact absurd h (by decide)
              have hwl := HWL.out (fun e => by have := HNV.out; rw [e] at this; revert this; decide)
              go_wp2
              refine bodyPost_ret (v := .tuple #[.agg #[.int .i64 2, .int .i64 0, .string (bs nx), .slice none 0 0, .slice none 0 0], .int .i64 2]) (by simp [results, Tryz.results51, go_sem, z0, z1, z2, z3, z4]) rfl ?_
              rw [HR.out]
              refine ⟨.mk 2 0 nx [] [], _, _, 2, rfl, ?_, keyX_leaf _ _ _ _ _ (by have := HNL.out; omega) (spansX_none _ _ _), rfl, .inr rfl, by simp, hwl⟩
              repeat' with_reducible first | exact HK3.out | refine Kept.alloc ?_ _ | refine Kept.setCell ?_ _ _ (by first | (simp; done) | (simp; omega))
            | false =>
              have HR : Hid (leafS x ws = none) := by show _ = _; unfold leafS; rw [HWF.out, HNX.out]; simp [HT.out, HNV.out, HSO.out]; cases so <;> simp [tText, tAll, tAt, tUid]
              go_wp2
              refine bodyPost_ret (v := .tuple #[.agg #[.int .i64 0, .int .i64 0, .string ⟨#[]⟩, .slice none 0 0, .slice none 0 0], .int .i64 0]) (by simp [results, Tryz.results51, go_sem, z0, z1, z2, z3, z4]) rfl ?_
              rw [HR.out]
              refine ⟨.mk 0 0 [] [] [], _, _, 0, rfl, ?_, keyX_leaf _ _ _ _ _ (Nat.zero_le _) (spansX_none _ _ _), rfl⟩
              repeat' with_reducible first | exact HK3.out | refine Kept.alloc ?_ _ | refine Kept.setCell ?_ _ _ (by first | (simp; done) | (simp; omega))
          · have q2 : ((bs x).toList == [116, 101, 120, 116]) = false := str_ne hT
            have HT := hid hT
            clear hT
            cases so with
            | none =>
              have HR : Hid (leafS x ws = none) := by show _ = _; unfold leafS; rw [HWF.out, HNX.out]; simp [HA.out, HT.out, HSO.out]
              by_cases hat : x = tAt
              · have q3 : ((bs x).toList == [97, 116]) = true := str_yes hat
                have q4 : ((bs x).toList == [117, 105, 100]) = false := str_ne (by rw [hat]; decide)
                clear hat
                go_wp2
                refine bodyPost_ret (v := .tuple #[.agg #[.int .i64 0, .int .i64 0, .string ⟨#[]⟩, .slice none 0 0, .slice none 0 0], .int .i64 0]) (by simp [results, Tryz.results51, go_sem, z0, z1, z2, z3, z4]) rfl ?_
                rw [HR.out]
                refine ⟨.mk 0 0 [] [] [], _, _, 0, rfl, ?_, keyX_leaf _ _ _ _ _ (Nat.zero_le _) (spansX_none _ _ _), rfl⟩
                repeat' with_reducible first | exact HK2.out | refine Kept.alloc ?_ _ | refine Kept.setCell ?_ _ _ (by first | (simp; done) | (simp; omega))
              · have q3 : ((bs x).toList == [97, 116]) = false := str_ne hat
                clear hat
                by_cases hu : x = tUid
                · have q4 : ((bs x).toList == [117, 105, 100]) = true := str_yes hu
                  clear hu
                  go_wp2
                  refine bodyPost_ret (v := .tuple #[.agg #[.int .i64 0, .int .i64 0, .string ⟨#[]⟩, .slice none 0 0, .slice none 0 0], .int .i64 0]) (by simp [results, Tryz.results51, go_sem, z0, z1, z2, z3, z4]) rfl ?_
                  rw [HR.out]
                  refine ⟨.mk 0 0 [] [] [], _, _, 0, rfl, ?_, keyX_leaf _ _ _ _ _ (Nat.zero_le _) (spansX_none _ _ _), rfl⟩
                  repeat' with_reducible first | exact HK2.out | refine Kept.alloc ?_ _ | refine Kept.setCell ?_ _ _ (by first | (simp; done) | (simp; omega))
                · have q4 : ((bs x).toList == [117, 105, 100]) = false := str_ne hu
                  clear hu
                  go_wp2
                  refine bodyPost_ret (v := .tuple #[.agg #[.int .i64 0, .int .i64 0, .string ⟨#[]⟩, .slice none 0 0, .slice none 0 0], .int .i64 0]) (by simp [results, Tryz.results51, go_sem, z0, z1, z2, z3, z4]) rfl ?_
                  rw [HR.out]
                  refine ⟨.mk 0 0 [] [] [], _, _, 0, rfl, ?_, keyX_leaf _ _ _ _ _ (Nat.zero_le _) (spansX_none _ _ _), rfl⟩
                  repeat' with_reducible first | exact HK2.out | refine Kept.alloc ?_ _ | refine Kept.setCell ?_ _ _ (by first | (simp; done) | (simp; omega))
            | some d =>
              have hd6 : d.length ≤ 6 := (setOk_mem (setS_ok HSO.out)).2.2
              have HX := hid (spansX_own HO.out hd6)
              have hwl := HWL.out (fun e => by have := HSO.out; rw [e, show setS [] = none from rfl] at this; cases this)
              simp only [Option.getD_some] at HX
              by_cases hat : x = tAt
              · have q3 : ((bs x).toList == [97, 116]) = true := str_yes hat
                have HR : Hid (leafS x ws = some (.mk 3 0 [] d [], ws.tail)) := by show _ = _; unfold leafS; rw [HWF.out, HNX.out]; rw [if_neg HA.out, if_neg (fun h => HT.out h.1), HSO.out]; dsimp only; rw [if_pos hat]
                clear hat
                go_wp2
                refine bodyPost_ret (v := .tuple #[.agg #[.int .i64 3, .int .i64 0, .string ⟨#[]⟩, .slice a2 d.length cap2, .slice none 0 0], .int .i64 2]) (by simp [results, Tryz.results51, go_sem, z0, z1, z2, z3, z4]) rfl ?_
                rw [HR.out]
                refine ⟨.mk 3 0 [] d [], .slice a2 d.length cap2, .slice none 0 0, 2, rfl, ?_, keyX_leaf _ _ _ _ _ (Nat.zero_le _) ((SpansX.kept HX.out (bs := [w.heap.size]) ?_ (by have := HK.out.size; simp; omega)).wide ?_ ?_), rfl, .inr rfl, by simp, hwl⟩
                · repeat' with_reducible first | exact HK2.out | refine Kept.alloc ?_ _ | refine Kept.setCell ?_ _ _ (by first | (simp; done) | (simp; omega))
                · repeat' with_reducible first | exact Kept.refl _ _ | refine Kept.setCell ?_ _ _ (by first | (simp; done) | (simp; omega))
                · have := HK.out.size; simp; try omega
                · simp [World.setCell]
              · have q3 : ((bs x).toList == [97, 116]) = false := str_ne hat
                by_cases hu : x = tUid
                · have q4 : ((bs x).toList == [117, 105, 100]) = true := str_yes hu
                  have HR : Hid (leafS x ws = some (.mk 4 0 [] d [], ws.tail)) := by show _ = _; unfold leafS; rw [HWF.out, HNX.out]; rw [if_neg HA.out, if_neg (fun h => HT.out h.1), HSO.out]; dsimp only; rw [if_neg hat, if_pos hu]
                  clear hat hu
                  go_wp2
                  refine bodyPost_ret (v := .tuple #[.agg #[.int .i64 4, .int .i64 0, .string ⟨#[]⟩, .slice a2 d.length cap2, .slice none 0 0], .int .i64 2]) (by simp [results, Tryz.results51, go_sem, z0, z1, z2, z3, z4]) rfl ?_
                  rw [HR.out]
                  refine ⟨.mk 4 0 [] d [], .slice a2 d.length cap2, .slice none 0 0, 2, rfl, ?_, keyX_leaf _ _ _ _ _ (Nat.zero_le _) ((SpansX.kept HX.out (bs := [w.heap.size]) ?_ (by have := HK.out.size; simp; omega)).wide ?_ ?_), rfl, .inr rfl, by simp, hwl⟩
                  · repeat' with_reducible first | exact HK2.out | refine Kept.alloc ?_ _ | refine Kept.setCell ?_ _ _ (by first | (simp; done) | (simp; omega))
                  · repeat' with_reducible first | exact Kept.refl _ _ | refine Kept.setCell ?_ _ _ (by first | (simp; done) | (simp; omega))
                  · have := HK.out.size; simp; try omega
                  · simp [World.setCell]
                · have q4 : ((bs x).toList == [117, 105, 100]) = false := str_ne hu
                  have HR : Hid (leafS x ws = none) := by show _ = _; unfold leafS; rw [HWF.out, HNX.out]; simp [HA.out, HT.out, HSO.out, hat, hu]
                  clear hat hu
                  go_wp2
                  refine bodyPost_ret (v := .tuple #[.agg #[.int .i64 0, .int .i64 0, .string ⟨#[]⟩, .slice none 0 0, .slice none 0 0], .int .i64 0]) (by simp [results, Tryz.results51, go_sem, z0, z1, z2, z3, z4]) rfl ?_
                  rw [HR.out]
                  refine ⟨.mk 0 0 [] [] [], _, _, 0, rfl, ?_, keyX_leaf _ _ _ _ _ (Nat.zero_le _) (spansX_none _ _ _), rfl⟩
                  repeat' with_reducible first | exact HK2.out | refine Kept.alloc ?_ _ | refine Kept.setCell ?_ _ _ (by first | (simp; done) | (simp; omega))
end Go.Proofs.YtoleonldkifcbaaGreatDoor
namespace Go.Proofs.YtoleonldkifcbaaGreatDoor
open Go.RowKit

/-- Reading goes well, with so few words left. -/
def ReadGoes (n : Nat) : Prop := ∀ (L : List (List UInt8)) (wv : Value) (p : Nat) (w : World), p ≤ L.length → L.length - p < n → L.length + 1 ≤ bigN → StrsAt 0 w wv L → (∀ x ∈ L, x.length + 1 ≤ bigN) →
  Calls Tryz.prog 30 #[wv, .int .i64 p] w (ReadRes (readK n (L.drop p)) L w)
def oneS (n : Nat) (L : List (List UInt8)) (p : Nat) (kind : Int) : Option (Ky × List (List UInt8)) := match readK n (L.drop p) with | none => none | some (k1, r1) => some (Ky.mk kind 0 [] [] [k1], r1)
def twoS (n : Nat) (L : List (List UInt8)) (p : Nat) (kind : Int) : Option (Ky × List (List UInt8)) := match readK n (L.drop p) with | none => none | some (k1, r1) => (match readK n r1 with | none => none | some (k2, r2) => some (Ky.mk kind 0 [] [] [k1, k2], r2))
theorem KeyX.form {lo hi : Nat} {w : World} {k : Ky} {sv kv : Value} (h : KeyX lo hi w k sv kv) : ∃ s1 s2 s3 t1 t2 t3, sv = .slice s1 s2 s3 ∧ kv = .slice t1 t2 t3 := by
  cases k
  unfold KeyX at h
  obtain ⟨-, ⟨a, cap, b, h2, -⟩, -, a', cap', b', h4, -⟩ := h
  exact ⟨_, _, _, _, _, _, h2, h4⟩

set_option maxRecDepth 100000 in
set_option maxHeartbeats 4000000 in
theorem join_one (n : Nat) (hG : ReadGoes n) (L : List (List UInt8)) (wv : Value) (kind : Int) (p : Nat) (w : World) (hp : p ≤ L.length) (hn : L.length - p < n) (hlL : L.length + 1 ≤ bigN) (hS : StrsAt 0 w wv L) (hL : ∀ x ∈ L, x.length + 1 ≤ bigN) :
    Calls Tryz.prog 50 #[wv, .int .i64 p, .int .i64 kind, .int .i64 1] w (ReadRes (oneS n L p kind) L w) := by
  obtain ⟨wa, wcap, rfl⟩ := hS.form
  have HS := hid hS
  have HG := hid (fun q (hq : q ≤ L.length) (hqn : L.length - q < n) W (hW : Kept [] w W) => hG L _ q W hq hqn hlL (hS.kept hW (by simp)) hL)
  obtain ⟨o, ho⟩ : ∃ o, (oneS n L p kind) = o := ⟨_, rfl⟩
  rw [ho]
  have HO := hid ho
  have hl63 : L.length ≤ 9223372036854775806 := by have h1 := Nat.le_trans hlL bigN_le; unfold maxLen at h1; omega
  clear ho hG hS hL hlL
  have HA := hid (alloc_block (new_block w (Obj.cells #[.int .i64 0, .int .i64 0, .string ⟨#[]⟩, .slice none 0 0, .slice none 0 0] 26)) (Obj.cells #[.int .i64 kind, .int .i64 0, .string ⟨#[]⟩, .slice none 0 0, .slice none 0 0] 26))
  have HB := hid (new_block2 w (Obj.cells #[.int .i64 0, .int .i64 0, .string ⟨#[]⟩, .slice none 0 0, .slice none 0 0] 26) (Obj.cells #[.int .i64 kind, .int .i64 0, .string ⟨#[]⟩, .slice none 0 0, .slice none 0 0] 26))
  have HKA := hid (((Kept.refl [] w).alloc (Obj.cells #[.int .i64 0, .int .i64 0, .string ⟨#[]⟩, .slice none 0 0, .slice none 0 0] 26)).alloc (Obj.cells #[.int .i64 kind, .int .i64 0, .string ⟨#[]⟩, .slice none 0 0, .slice none 0 0] 26))
  go_enter Tryz.func50, Tryz.ntmps50
  go_wp2
  go_loopg [1, 11] 2 (fun m a i W => (m = 2 ∧ i = .int .i64 0 ∧ a = .int .i64 p ∧ W = (w.alloc (Obj.cells #[.int .i64 0, .int .i64 0, .string ⟨#[]⟩, .slice none 0 0, .slice none 0 0] 26)).alloc (Obj.cells #[.int .i64 kind, .int .i64 0, .string ⟨#[]⟩, .slice none 0 0, .slice none 0 0] 26)) ∨
    (m = 1 ∧ i = .int .i64 1 ∧ ∃ (k1 : Ky) (p1 : Nat) (g cap x1 y1 H : Nat) (sv1 kv1 : Value), a = .int .i64 p1 ∧ p1 ≤ L.length ∧ readK n (L.drop p) = some (k1, L.drop p1) ∧ W.heap[w.heap.size]? = some (.cells #[.int .i64 0, .int .i64 0, .string ⟨#[]⟩, .slice none 0 0, .slice none 0 0] 26 (0, 0)) ∧ W.heap[w.heap.size + 1]? = some (.cells #[.int .i64 kind, .int .i64 0, .string ⟨#[]⟩, .slice none 0 0, .slice (some ⟨g, 0, none⟩) 1 cap] 26 (0, 0)) ∧
      W.ownsRow H 26 5 (.slice (some ⟨g, 0, none⟩) 1 cap) 1 (kcs k1 sv1 kv1) ∧ KeyX x1 y1 W k1 sv1 kv1 ∧ w.heap.size + 2 ≤ x1 ∧ x1 ≤ y1 ∧ y1 ≤ H ∧ g < W.heap.size ∧ Kept [] w W))
  case atStart => exact .inl ⟨rfl, rfl, rfl, rfl⟩
  case round =>
    rcases hrel with ⟨rfl, rfl, rfl, rfl⟩ | ⟨rfl, rfl, k1, p1, g, cap, x1, y1, H, sv1, kv1, rfl, hp1, e1, hA1, hB1, hO1, hX1, hx1, hxy1, hyH, hgl, hKW⟩
    · have HC := hid (HG.out p hp hn _ HKA.out)
      have HAx := HA
      have HBx := HB
      have HKx : Hid (Kept [] w _) := HKA
      go_wp2_with fail
      refine HC.out.mono ?_
      rintro e w2 ⟨kk, sv, kv, nx, rfl, hK2, hXX, hres⟩
      obtain ⟨s1, s2, s3, t1, t2, t3, rfl, rfl⟩ := hXX.form
      have hA2 := hK2.same HAx.out (by simp)
      have hB2 := hK2.same HBx.out (by simp)
      have a0 := cell_of_block hA2 0
      have a1 := cell_of_block hA2 1
      have a2 := cell_of_block hA2 2
      have a3 := cell_of_block hA2 3
      have a4 := cell_of_block hA2 4
      simp at a0 a1 a2 a3 a4
      have f0 := frozen_of_block hA2 0
      have f1 := frozen_of_block hA2 1
      have f2 := frozen_of_block hA2 2
      have f3 := frozen_of_block hA2 3
      have f4 := frozen_of_block hA2 4
      have b0 := cell_of_block hB2 0
      have b1 := cell_of_block hB2 1
      have b2 := cell_of_block hB2 2
      have b3 := cell_of_block hB2 3
      have b4 := cell_of_block hB2 4
      simp at b0 b1 b2 b3 b4
      have h0 := frozen_of_block hB2 0
      have h1 := frozen_of_block hB2 1
      have h2 := frozen_of_block hB2 2
      have h3 := frozen_of_block hB2 3
      have h4 := frozen_of_block hB2 4
      have hal := lt_of_block hA2
      have hbl := lt_of_block hB2
      have HA2 := hid hA2
      have HB2 := hid hB2
      have HK2 := hid hK2
      have HKW2 := hid (HKx.out.trans hK2)
      have HX := hid hXX
      clear hA2 hB2 hK2 hXX
      cases hrd : readK n (L.drop p) with
      | none =>
        rw [hrd] at hres
        dsimp only at hres
        subst hres
        have HN : Hid (o = none) := by show _ = _; rw [← HO.out, oneS, hrd]
        clear hrd
        go_wp2
        refine bodyPost_ret (v := .tuple #[.agg #[.int .i64 0, .int .i64 0, .string ⟨#[]⟩, .slice none 0 0, .slice none 0 0], .int .i64 (-1)]) (by simp [results, Tryz.results50, go_sem, a0, a1, a2, a3, a4, hal]) rfl ?_
        refine ⟨.mk 0 0 [] [] [], _, _, -1, rfl, ?_, keyX_leaf _ _ _ _ _ (Nat.zero_le _) (spansX_none _ _ _), by rw [HN.out]⟩
        repeat' with_reducible first | exact HKW2.out | refine Kept.alloc ?_ _ | refine Kept.setCell ?_ _ _ (by first | (simp; done) | (simp; omega))
      | some kq =>
        obtain ⟨k1, rr1⟩ := kq
        rw [hrd] at hres
        obtain ⟨hkk, p1, rfl, hp1, hrr⟩ := hres
        have hkk : k1 = kk := hkk.symm
        subst hkk
        dsimp only at hrr HX
        subst hrr
        have HE := hid hrd
        have hneg : ¬ (p1 : Int) < 0 := by omega
        clear hrd
        go_wp2_with (at_builtin; refine append_where 24 26 _ 5 80 Tryz.underlying24 inf_key rfl (by decide) (by decide) rfl (.tmp 31) (.tmp 33) rfl (w2.heap.size + 2) (.slice none 0 0) 0 [] rfl (own_empty _ _ _ _) (w2.heap.size + 1) 1 1 (kcs k1 (.slice s1 s2 s3) (.slice t1 t2 t3)) rfl #[.int .i64 k1.kind, .int .i64 k1.flag, .string (bs k1.text), .slice s1 s2 s3, .slice t1 t2 t3] (0, 0) (new_block2 _ _ _) rfl rfl (by simp [kcs, Value.oneCell']) (by unfold bigN; omega) (by omega) (by first | (simp; done) | (simp; omega)) ?_; intro g3 cap3 w3 hown3 hgrow3 hwh hgl3; have hb3 := (hgrow3.block (w.heap.size + 1) (by have := lt_of_block HB2.out; simp; omega) (fun e => by have e : some (w.heap.size + 1) = (none : Option Nat) := e; cases e)).trans (alloc_block (alloc_block HB2.out _) _); have b34 := cell_of_block hb3 4; have h34 := frozen_of_block hb3 4; simp at b34)
        have KF : Kept [w.heap.size + 1, w.heap.size + 1] w2 (w3.setCell ⟨w.heap.size + 1, 4, none⟩ (.slice (some ⟨g3, 0, none⟩) 1 cap3)) := ((((Kept.refl _ w2).alloc _).alloc _).grown hgrow3 (by intro k e _; have e : (none : Option Nat) = some k := e; cases e)).setCell _ _ (by simp)
        go_roundg 1
        case measure => omega
        case rel =>
          refine .inr ⟨rfl, by go_num, k1, p1, g3, cap3, w.heap.size + 2, w2.heap.size, w2.heap.size + 2, .slice s1 s2 s3, .slice t1 t2 t3, rfl, hp1, HE.out, KF.same HA2.out (by simp), ?_, ?_, ?_, Nat.le_refl _, ?_, by omega, ?_, ?_⟩
          · have := set_of_block (i := 4) hb3 (.slice (some ⟨g3, 0, none⟩) 1 cap3); simpa using this
          · have := own_kept hown3 ((Kept.refl [w.heap.size + 1] _).setCell ⟨w.heap.size + 1, 4, none⟩ (.slice (some ⟨g3, 0, none⟩) 1 cap3) (by simp)) (by simp; omega); simpa using this
          · have := KeyX.kept KF (by simp) k1 _ _ HX.out; simpa using this
          · have := HK2.out.size; simpa using this
          · simpa [World.setCell] using hgl3
          · exact HKW2.out.trans' KF (fun _ e _ => e) (fun x e hx => by simp at e; omega)
    · have a0 := cell_of_block hA1 0
      have a1 := cell_of_block hA1 1
      have a2 := cell_of_block hA1 2
      have a3 := cell_of_block hA1 3
      have a4 := cell_of_block hA1 4
      simp at a0 a1 a2 a3 a4
      have f0 := frozen_of_block hA1 0
      have f1 := frozen_of_block hA1 1
      have f2 := frozen_of_block hA1 2
      have f3 := frozen_of_block hA1 3
      have f4 := frozen_of_block hA1 4
      have b0 := cell_of_block hB1 0
      have b1 := cell_of_block hB1 1
      have b2 := cell_of_block hB1 2
      have b3 := cell_of_block hB1 3
      have b4 := cell_of_block hB1 4
      simp at b0 b1 b2 b3 b4
      have h0 := frozen_of_block hB1 0
      have h1 := frozen_of_block hB1 1
      have h2 := frozen_of_block hB1 2
      have h3 := frozen_of_block hB1 3
      have h4 := frozen_of_block hB1 4
      have hal := lt_of_block hA1
      have hbl := lt_of_block hB1
      have HE := hid e1
      have HX := hid (fun W' (hK : Kept [w.heap.size] wr W') => keyX_mk1 (lo := w.heap.size) kind hO1 hX1 (by omega) hxy1 hyH hgl hK (by omega))
      have HKW := hid hKW
      clear e1 hO1 hX1 hKW hA1 hB1
      go_wp2
      refine bodyPost_ret (v := .tuple #[.agg #[.int .i64 kind, .int .i64 0, .string ⟨#[]⟩, .slice none 0 0, .slice (some ⟨g, 0, none⟩) 1 cap], .int .i64 p1]) (by simp [results, Tryz.results50, go_sem, a0, a1, a2, a3, a4]) rfl ?_
      have ho : o = some (Ky.mk kind 0 [] [] [k1], L.drop p1) := by rw [← HO.out, oneS, HE.out]
      subst ho
      refine ⟨.mk kind 0 [] [] [k1], _, _, p1, rfl, ?_, HX.out _ ?_, rfl, p1, rfl, hp1, rfl⟩
      · repeat' with_reducible first | exact HKW.out | refine Kept.setCell ?_ _ _ (by first | (simp; done) | (simp; omega))
      · repeat' with_reducible first | exact Kept.refl _ _ | refine Kept.setCell ?_ _ _ (by simp)

set_option maxRecDepth 100000 in
set_option maxHeartbeats 4000000 in
theorem join_two (n : Nat) (hG : ReadGoes n) (L : List (List UInt8)) (wv : Value) (kind : Int) (p : Nat) (w : World) (hp : p ≤ L.length) (hn : L.length - p < n) (hlL : L.length + 1 ≤ bigN) (hS : StrsAt 0 w wv L) (hL : ∀ x ∈ L, x.length + 1 ≤ bigN) :
    Calls Tryz.prog 50 #[wv, .int .i64 p, .int .i64 kind, .int .i64 2] w (ReadRes (twoS n L p kind) L w) := by
  obtain ⟨wa, wcap, rfl⟩ := hS.form
  have HS := hid hS
  have HG := hid (fun q (hq : q ≤ L.length) (hqn : L.length - q < n) W (hW : Kept [] w W) => hG L _ q W hq hqn hlL (hS.kept hW (by simp)) hL)
  obtain ⟨o, ho⟩ : ∃ o, (twoS n L p kind) = o := ⟨_, rfl⟩
  rw [ho]
  have HO := hid ho
  have hl63 : L.length ≤ 9223372036854775806 := by have h1 := Nat.le_trans hlL bigN_le; unfold maxLen at h1; omega
  clear ho hG hS hL hlL
  have HA := hid (alloc_block (new_block w (Obj.cells #[.int .i64 0, .int .i64 0, .string ⟨#[]⟩, .slice none 0 0, .slice none 0 0] 26)) (Obj.cells #[.int .i64 kind, .int .i64 0, .string ⟨#[]⟩, .slice none 0 0, .slice none 0 0] 26))
  have HB := hid (new_block2 w (Obj.cells #[.int .i64 0, .int .i64 0, .string ⟨#[]⟩, .slice none 0 0, .slice none 0 0] 26) (Obj.cells #[.int .i64 kind, .int .i64 0, .string ⟨#[]⟩, .slice none 0 0, .slice none 0 0] 26))
  have HKA := hid (((Kept.refl [] w).alloc (Obj.cells #[.int .i64 0, .int .i64 0, .string ⟨#[]⟩, .slice none 0 0, .slice none 0 0] 26)).alloc (Obj.cells #[.int .i64 kind, .int .i64 0, .string ⟨#[]⟩, .slice none 0 0, .slice none 0 0] 26))
  go_enter Tryz.func50, Tryz.ntmps50
  go_wp2
  go_loopg [1, 11] 3 (fun m a i W => (m = 3 ∧ i = .int .i64 0 ∧ a = .int .i64 p ∧ W = (w.alloc (Obj.cells #[.int .i64 0, .int .i64 0, .string ⟨#[]⟩, .slice none 0 0, .slice none 0 0] 26)).alloc (Obj.cells #[.int .i64 kind, .int .i64 0, .string ⟨#[]⟩, .slice none 0 0, .slice none 0 0] 26)) ∨
    (m = 2 ∧ i = .int .i64 1 ∧ ∃ (k1 : Ky) (p1 : Nat) (g cap x1 y1 H : Nat) (sv1 kv1 : Value), a = .int .i64 p1 ∧ p1 ≤ L.length ∧ readK n (L.drop p) = some (k1, L.drop p1) ∧ W.heap[w.heap.size]? = some (.cells #[.int .i64 0, .int .i64 0, .string ⟨#[]⟩, .slice none 0 0, .slice none 0 0] 26 (0, 0)) ∧ W.heap[w.heap.size + 1]? = some (.cells #[.int .i64 kind, .int .i64 0, .string ⟨#[]⟩, .slice none 0 0, .slice (some ⟨g, 0, none⟩) 1 cap] 26 (0, 0)) ∧
      W.ownsRow H 26 5 (.slice (some ⟨g, 0, none⟩) 1 cap) 1 (kcs k1 sv1 kv1) ∧ KeyX x1 y1 W k1 sv1 kv1 ∧ w.heap.size + 2 ≤ x1 ∧ x1 ≤ y1 ∧ y1 ≤ H ∧ g < W.heap.size ∧ Kept [] w W) ∨
    (m = 1 ∧ i = .int .i64 2 ∧ ∃ (k1 k2 : Ky) (p1 p2 : Nat) (g cap x1 y1 x2 y2 H : Nat) (sv1 kv1 sv2 kv2 : Value), a = .int .i64 p2 ∧ p2 ≤ L.length ∧ readK n (L.drop p) = some (k1, L.drop p1) ∧ readK n (L.drop p1) = some (k2, L.drop p2) ∧ W.heap[w.heap.size]? = some (.cells #[.int .i64 0, .int .i64 0, .string ⟨#[]⟩, .slice none 0 0, .slice none 0 0] 26 (0, 0)) ∧ W.heap[w.heap.size + 1]? = some (.cells #[.int .i64 kind, .int .i64 0, .string ⟨#[]⟩, .slice none 0 0, .slice (some ⟨g, 0, none⟩) 2 cap] 26 (0, 0)) ∧
      W.ownsRow H 26 5 (.slice (some ⟨g, 0, none⟩) 2 cap) 2 (kcs k1 sv1 kv1 ++ kcs k2 sv2 kv2) ∧ KeyX x1 y1 W k1 sv1 kv1 ∧ KeyX x2 y2 W k2 sv2 kv2 ∧ w.heap.size + 2 ≤ x1 ∧ x1 ≤ y1 ∧ y1 ≤ H ∧ y1 ≤ x2 ∧ x2 ≤ y2 ∧ y2 ≤ W.heap.size ∧ (g < x2 ∨ y2 ≤ g) ∧ g < W.heap.size ∧ Kept [] w W))
  case atStart => exact .inl ⟨rfl, rfl, rfl, rfl⟩
  case round =>
    rcases hrel with ⟨rfl, rfl, rfl, rfl⟩ | ⟨rfl, rfl, k1, p1, g, cap, x1, y1, H, sv1, kv1, rfl, hp1, e1, hA1, hB1, hO1, hX1, hx1, hxy1, hyH, hgl, hKW⟩ | ⟨rfl, rfl, k1, k2, p1, p2, g, cap, x1, y1, x2, y2, H, sv1, kv1, sv2, kv2, rfl, hp2, e1, e2, hA2, hB2, hO2, hX1, hX2, hx1, hxy1, hyH, hyx, hxy2, hy2, hg2, hgl, hKW⟩
    · have HC := hid (HG.out p hp hn _ HKA.out)
      have HAx := HA
      have HBx := HB
      have HKx : Hid (Kept [] w _) := HKA
      go_wp2_with fail
      refine HC.out.mono ?_
      rintro e w2 ⟨kk, sv, kv, nx, rfl, hK2, hXX, hres⟩
      obtain ⟨s1, s2, s3, t1, t2, t3, rfl, rfl⟩ := hXX.form
      have hA2 := hK2.same HAx.out (by simp)
      have hB2 := hK2.same HBx.out (by simp)
      have a0 := cell_of_block hA2 0
      have a1 := cell_of_block hA2 1
      have a2 := cell_of_block hA2 2
      have a3 := cell_of_block hA2 3
      have a4 := cell_of_block hA2 4
      simp at a0 a1 a2 a3 a4
      have f0 := frozen_of_block hA2 0
      have f1 := frozen_of_block hA2 1
      have f2 := frozen_of_block hA2 2
      have f3 := frozen_of_block hA2 3
      have f4 := frozen_of_block hA2 4
      have b0 := cell_of_block hB2 0
      have b1 := cell_of_block hB2 1
      have b2 := cell_of_block hB2 2
      have b3 := cell_of_block hB2 3
      have b4 := cell_of_block hB2 4
      simp at b0 b1 b2 b3 b4
      have h0 := frozen_of_block hB2 0
      have h1 := frozen_of_block hB2 1
      have h2 := frozen_of_block hB2 2
      have h3 := frozen_of_block hB2 3
      have h4 := frozen_of_block hB2 4
      have hal := lt_of_block hA2
      have hbl := lt_of_block hB2
      have HA2 := hid hA2
      have HB2 := hid hB2
      have HK2 := hid hK2
      have HKW2 := hid (HKx.out.trans hK2)
      have HX := hid hXX
      clear hA2 hB2 hK2 hXX
      cases hrd : readK n (L.drop p) with
      | none =>
        rw [hrd] at hres
        dsimp only at hres
        subst hres
        have HN : Hid (o = none) := by show _ = _; rw [← HO.out, twoS, hrd]
        clear hrd
        go_wp2
        refine bodyPost_ret (v := .tuple #[.agg #[.int .i64 0, .int .i64 0, .string ⟨#[]⟩, .slice none 0 0, .slice none 0 0], .int .i64 (-1)]) (by simp [results, Tryz.results50, go_sem, a0, a1, a2, a3, a4, hal]) rfl ?_
        refine ⟨.mk 0 0 [] [] [], _, _, -1, rfl, ?_, keyX_leaf _ _ _ _ _ (Nat.zero_le _) (spansX_none _ _ _), by rw [HN.out]⟩
        repeat' with_reducible first | exact HKW2.out | refine Kept.alloc ?_ _ | refine Kept.setCell ?_ _ _ (by first | (simp; done) | (simp; omega))
      | some kq =>
        obtain ⟨k1, rr1⟩ := kq
        rw [hrd] at hres
        obtain ⟨hkk, p1, rfl, hp1, hrr⟩ := hres
        have hkk : k1 = kk := hkk.symm
        subst hkk
        dsimp only at hrr HX
        subst hrr
        have HE := hid hrd
        have hneg : ¬ (p1 : Int) < 0 := by omega
        clear hrd
        go_wp2_with (at_builtin; refine append_where 24 26 _ 5 80 Tryz.underlying24 inf_key rfl (by decide) (by decide) rfl (.tmp 31) (.tmp 33) rfl (w2.heap.size + 2) (.slice none 0 0) 0 [] rfl (own_empty _ _ _ _) (w2.heap.size + 1) 1 1 (kcs k1 (.slice s1 s2 s3) (.slice t1 t2 t3)) rfl #[.int .i64 k1.kind, .int .i64 k1.flag, .string (bs k1.text), .slice s1 s2 s3, .slice t1 t2 t3] (0, 0) (new_block2 _ _ _) rfl rfl (by simp [kcs, Value.oneCell']) (by unfold bigN; omega) (by omega) (by first | (simp; done) | (simp; omega)) ?_; intro g3 cap3 w3 hown3 hgrow3 hwh hgl3; have hb3 := (hgrow3.block (w.heap.size + 1) (by have := lt_of_block HB2.out; simp; omega) (fun e => by have e : some (w.heap.size + 1) = (none : Option Nat) := e; cases e)).trans (alloc_block (alloc_block HB2.out _) _); have b34 := cell_of_block hb3 4; have h34 := frozen_of_block hb3 4; simp at b34)
        have KF : Kept [w.heap.size + 1, w.heap.size + 1] w2 (w3.setCell ⟨w.heap.size + 1, 4, none⟩ (.slice (some ⟨g3, 0, none⟩) 1 cap3)) := ((((Kept.refl _ w2).alloc _).alloc _).grown hgrow3 (by intro k e _; have e : (none : Option Nat) = some k := e; cases e)).setCell _ _ (by simp)
        go_roundg 2
        case measure => omega
        case rel =>
          refine .inr (.inl ⟨rfl, by go_num, k1, p1, g3, cap3, w.heap.size + 2, w2.heap.size, w2.heap.size + 2, .slice s1 s2 s3, .slice t1 t2 t3, rfl, hp1, HE.out, KF.same HA2.out (by simp), ?_, ?_, ?_, Nat.le_refl _, ?_, by omega, ?_, ?_⟩)
          · have := set_of_block (i := 4) hb3 (.slice (some ⟨g3, 0, none⟩) 1 cap3); simpa using this
          · have := own_kept hown3 ((Kept.refl [w.heap.size + 1] _).setCell ⟨w.heap.size + 1, 4, none⟩ (.slice (some ⟨g3, 0, none⟩) 1 cap3) (by simp)) (by simp; omega); simpa using this
          · have := KeyX.kept KF (by simp) k1 _ _ HX.out; simpa using this
          · have := HK2.out.size; simpa using this
          · simpa [World.setCell] using hgl3
          · exact HKW2.out.trans' KF (fun _ e _ => e) (fun x e hx => by simp at e; omega)
    · have hn1 : L.length - p1 < n := by have := readK_nodes _ _ _ _ e1; simp at this; omega
      have HC := hid (HG.out p1 hp1 hn1 _ hKW)
      have HAx := hid hA1
      have HBx := hid hB1
      have HKx := hid hKW
      have HOx := hid hO1
      have HX1 := hid hX1
      have HE1 := hid e1
      have hgl0 := hgl
      clear hA1 hB1 hO1 hX1 e1 hKW hn1
      go_wp2_with fail
      refine HC.out.mono ?_
      rintro e w2 ⟨kk, sv, kv, nx, rfl, hK2, hXX, hres⟩
      obtain ⟨s1, s2, s3, t1, t2, t3, rfl, rfl⟩ := hXX.form
      have hA2 := hK2.same HAx.out (by simp)
      have hB2 := hK2.same HBx.out (by simp)
      have a0 := cell_of_block hA2 0
      have a1 := cell_of_block hA2 1
      have a2 := cell_of_block hA2 2
      have a3 := cell_of_block hA2 3
      have a4 := cell_of_block hA2 4
      simp at a0 a1 a2 a3 a4
      have f0 := frozen_of_block hA2 0
      have f1 := frozen_of_block hA2 1
      have f2 := frozen_of_block hA2 2
      have f3 := frozen_of_block hA2 3
      have f4 := frozen_of_block hA2 4
      have b0 := cell_of_block hB2 0
      have b1 := cell_of_block hB2 1
      have b2 := cell_of_block hB2 2
      have b3 := cell_of_block hB2 3
      have b4 := cell_of_block hB2 4
      simp at b0 b1 b2 b3 b4
      have h0 := frozen_of_block hB2 0
      have h1 := frozen_of_block hB2 1
      have h2 := frozen_of_block hB2 2
      have h3 := frozen_of_block hB2 3
      have h4 := frozen_of_block hB2 4
      have hal := lt_of_block hA2
      have hbl := lt_of_block hB2
      have HA2 := hid hA2
      have HB2 := hid hB2
      have HK2 := hid hK2
      have HKW2 := hid (HKx.out.trans hK2)
      have HX := hid hXX
      have hHg := (HOx.out.lt g rfl).1
      have hsz2 := HK2.out.size
      have HO2 := hid (own_kept HOx.out hK2 (by simp))
      have HX12 := hid (KeyX.kept hK2 (by simp) k1 sv1 kv1 HX1.out)
      clear hA2 hB2 hK2 hXX
      cases hrd : readK n (L.drop p1) with
      | none =>
        rw [hrd] at hres
        dsimp only at hres
        subst hres
        have HN : Hid (o = none) := by show _ = _; rw [← HO.out, twoS, HE1.out]; dsimp only; rw [hrd]
        clear hrd
        go_wp2
        refine bodyPost_ret (v := .tuple #[.agg #[.int .i64 0, .int .i64 0, .string ⟨#[]⟩, .slice none 0 0, .slice none 0 0], .int .i64 (-1)]) (by simp [results, Tryz.results50, go_sem, a0, a1, a2, a3, a4, hal]) rfl ?_
        refine ⟨.mk 0 0 [] [] [], _, _, -1, rfl, ?_, keyX_leaf _ _ _ _ _ (Nat.zero_le _) (spansX_none _ _ _), by rw [HN.out]⟩
        repeat' with_reducible first | exact HKW2.out | refine Kept.alloc ?_ _ | refine Kept.setCell ?_ _ _ (by first | (simp; done) | (simp; omega))
      | some kq =>
        obtain ⟨k2, rr2⟩ := kq
        rw [hrd] at hres
        obtain ⟨hkk, p2, rfl, hp2, hrr⟩ := hres
        have hkk : k2 = kk := hkk.symm
        subst hkk
        dsimp only at hrr HX
        subst hrr
        have HE := hid hrd
        have hneg : ¬ (p2 : Int) < 0 := by omega
        clear hrd
        go_wp2_with (at_builtin; refine append_where 24 26 _ 5 80 Tryz.underlying24 inf_key rfl (by decide) (by decide) rfl (.tmp 31) (.tmp 33) rfl H (.slice (some ⟨g, 0, none⟩) 1 cap) 1 (kcs k1 sv1 kv1) rfl ((HO2.out.alloc _).alloc _) (w2.heap.size + 1) 1 1 (kcs k2 (.slice s1 s2 s3) (.slice t1 t2 t3)) rfl #[.int .i64 k2.kind, .int .i64 k2.flag, .string (bs k2.text), .slice s1 s2 s3, .slice t1 t2 t3] (0, 0) (new_block2 _ _ _) rfl rfl (by simp [kcs, Value.oneCell']) (by unfold bigN; omega) (by omega) (by first | (simp; done) | (simp; omega)) ?_; intro g3 cap3 w3 hown3 hgrow3 hwh hgl3; have hb3 := (hgrow3.block (w.heap.size + 1) (by have := lt_of_block HB2.out; simp; omega) (fun e => by have e : some (w.heap.size + 1) = some g := e; injection e with e; omega)).trans (alloc_block (alloc_block HB2.out _) _); have b34 := cell_of_block hb3 4; have h34 := frozen_of_block hb3 4; simp at b34)
        have KF : Kept [w.heap.size + 1, g] w2 (w3.setCell ⟨w.heap.size + 1, 4, none⟩ (.slice (some ⟨g3, 0, none⟩) 2 cap3)) := ((((Kept.refl _ w2).alloc _).alloc _).grown hgrow3 (by intro k e _; have e : some g = some k := e; injection e with e; simp [← e])).setCell _ _ (by simp)
        go_roundg 1
        case measure => omega
        case rel =>
          refine .inr (.inr ⟨rfl, by go_num, k1, k2, p1, p2, g3, cap3, x1, y1, wr.heap.size, w2.heap.size, H, sv1, kv1, .slice s1 s2 s3, .slice t1 t2 t3, rfl, hp2, HE1.out, HE.out, KF.same HA2.out (by simp; omega), ?_, ?_, ?_, ?_, hx1, hxy1, hyH, by omega, hsz2, ?_, ?_, ?_, ?_⟩)
          · have := set_of_block (i := 4) hb3 (.slice (some ⟨g3, 0, none⟩) 2 cap3); simpa using this
          · have := own_kept hown3 ((Kept.refl [w.heap.size + 1] _).setCell ⟨w.heap.size + 1, 4, none⟩ (.slice (some ⟨g3, 0, none⟩) 2 cap3) (by simp)) (by simp; omega); simpa using this
          · exact KeyX.kept KF (by simp; omega) k1 _ _ HX12.out
          · exact KeyX.kept KF (by simp; omega) k2 _ _ HX.out
          · exact KF.size
          · rcases hwh with e | e
            · have e : some g = some g3 := e
              injection e with e; omega
            · right; rw [e]; simp; omega
          · simpa [World.setCell] using hgl3
          · exact HKW2.out.trans' KF (fun _ e _ => e) (fun x e hx => by simp at e; omega)
    · have a0 := cell_of_block hA2 0
      have a1 := cell_of_block hA2 1
      have a2 := cell_of_block hA2 2
      have a3 := cell_of_block hA2 3
      have a4 := cell_of_block hA2 4
      simp at a0 a1 a2 a3 a4
      have f0 := frozen_of_block hA2 0
      have f1 := frozen_of_block hA2 1
      have f2 := frozen_of_block hA2 2
      have f3 := frozen_of_block hA2 3
      have f4 := frozen_of_block hA2 4
      have b0 := cell_of_block hB2 0
      have b1 := cell_of_block hB2 1
      have b2 := cell_of_block hB2 2
      have b3 := cell_of_block hB2 3
      have b4 := cell_of_block hB2 4
      simp at b0 b1 b2 b3 b4
      have h0 := frozen_of_block hB2 0
      have h1 := frozen_of_block hB2 1
      have h2 := frozen_of_block hB2 2
      have h3 := frozen_of_block hB2 3
      have h4 := frozen_of_block hB2 4
      have hal := lt_of_block hA2
      have hbl := lt_of_block hB2
      have HE := hid (And.intro e1 e2)
      have HX := hid (fun W' (hK : Kept [w.heap.size] wr W') => keyX_mk2 (lo := w.heap.size) kind hO2 hX1 hX2 (by omega) hxy1 hyH hyx hxy2 hy2 hg2 hgl hK (by omega))
      have HKW := hid hKW
      clear e1 e2 hO2 hX1 hX2 hKW hA2 hB2 hg2
      go_wp2
      refine bodyPost_ret (v := .tuple #[.agg #[.int .i64 kind, .int .i64 0, .string ⟨#[]⟩, .slice none 0 0, .slice (some ⟨g, 0, none⟩) 2 cap], .int .i64 p2]) (by simp [results, Tryz.results50, go_sem, a0, a1, a2, a3, a4]) rfl ?_
      have ho : o = some (Ky.mk kind 0 [] [] [k1, k2], L.drop p2) := by rw [← HO.out, twoS, HE.out.1]; dsimp only; rw [HE.out.2]
      subst ho
      refine ⟨.mk kind 0 [] [] [k1, k2], _, _, p2, rfl, ?_, HX.out _ ?_, rfl, p2, rfl, hp2, rfl⟩
      · repeat' with_reducible first | exact HKW.out | refine Kept.setCell ?_ _ _ (by first | (simp; done) | (simp; omega))
      · repeat' with_reducible first | exact Kept.refl _ _ | refine Kept.setCell ?_ _ _ (by simp)
end Go.Proofs.YtoleonldkifcbaaGreatDoor
