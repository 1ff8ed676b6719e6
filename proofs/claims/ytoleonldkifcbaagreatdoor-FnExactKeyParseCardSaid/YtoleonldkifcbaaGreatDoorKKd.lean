/- The walk of KeyParse (impl). -/
import Derived.Test.YtoleonldkifcbaaGreatDoorKWa
import Derived.Test.YtoleonldkifcbaaGreatDoorKP
import Derived.Test.YtoleonldkifcbaaGreatDoorShelf
import Derived.Test.YtoleonldkifcbaaGreatDoorKKc
namespace Go.Proofs.YtoleonldkifcbaaGreatDoor
open Go.RowKit

theorem split_any (l : List UInt8) (m : Int) (w : World) (hs : l.length + 1 ≤ bigN) (hm : w.cell? ⟨1, 0, none⟩ = some (.int .i64 m)) :
    Calls Tryz.prog 23 #[.string (bs l), .string ⟨#[32]⟩] w fun e w' => ∃ a cap, e = .returned (.slice a (cutB 32 l).length cap) ∧ StrsAt 0 w' (.slice a (cutB 32 l).length cap) (cutB 32 l) ∧ Kept [] w w' := by
  have h := Tryz.strings_Split (bs l) ⟨#[32]⟩ m w (by rw [bs_size]; unfold bigN at hs; omega) hm (by decide)
  have hc : Lib.countB (bs l) ⟨#[32]⟩ + 1 = (cutB 32 l).length := by
    rw [count_cut]
    have : Lib.countB (bs l) ⟨#[32]⟩ = l.count 32 := by
      have := Lib.count_one 32 (bs l).data.toList
      rw [bs_toList] at this
      exact (show Lib.countB (bs l) ⟨#[32]⟩ = Lib.count (bs l).data.toList [32] from rfl).trans (by rw [bs_toList]; exact this)
    rw [this]
  have hsp := split_strs (bs l) 32
  rw [bs_toList] at hsp
  rw [hc, hsp] at h
  refine h.mono ?_
  rintro e w' ⟨rfl, rfl⟩
  have hlen := cutB_len 32 l
  refine ⟨_, _, rfl, ⟨_, _, w.heap.size, 0, rfl, ?_, Nat.le_refl _, fun _ => ⟨rfl, Nat.zero_le _, by simp⟩, fun j hj => ⟨?_, ?_⟩⟩, (Kept.refl _ _).alloc _⟩
  · omega
  · rw [cell_of_block (new_block w _), Nat.zero_add]
    simp [List.getElem?_eq_getElem hj]
  · exact Nat.le_trans (cutB_part 32 l _ (List.getElem_mem hj)) (by omega)

end Go.Proofs.YtoleonldkifcbaaGreatDoor
namespace Go.Proofs.YtoleonldkifcbaaGreatDoor
open Go.RowKit

theorem key_goes (w0 : World) (hF : FlagsAt w0) : ∀ n, KeyGoes w0 n
  | 0 => fun _ _ _ _ _ _ _ _ h _ => absurd h (Nat.not_lt_zero _)
  | n + 1 => key_step w0 hF n (key_goes w0 hF n)

/-- What parsing tells. -/
def ParseRes (o : Option Ky) (w : World) (e : Ending) (w' : World) : Prop :=
  ∃ s1 s2 s3 t1 t2 t3, e = .returned (.tuple #[.agg #[.int .i64 (o.getD kyNone).kind, .int .i64 (o.getD kyNone).flag, .string (bs (o.getD kyNone).text), .slice s1 s2 s3, .slice t1 t2 t3], .bool o.isSome]) ∧ Kept [] w w' ∧
    KeyX w.heap.size w'.heap.size w' (o.getD kyNone) (.slice s1 s2 s3) (.slice t1 t2 t3)

set_option maxRecDepth 100000 in
set_option maxHeartbeats 4000000 in
theorem iKeyParse_any (t : List UInt8) (m : Int) (w : World) (ht : t.length + 1 ≤ bigN - 1) (hF : FlagsAt w) (hm : w.cell? ⟨1, 0, none⟩ = some (.int .i64 m)) :
    Calls Tryz.prog 10 #[.string (bs t)] w (ParseRes (keyI t) w) := by
  have ht' : t.length + 1 ≤ bigN := by omega
  have HZ := hid (new_block w (Obj.cells #[.int .i64 0, .int .i64 0, .string ⟨#[]⟩, .slice none 0 0, .slice none 0 0] 26))
  have KZ := hid ((Kept.refl [] w).alloc (Obj.cells #[.int .i64 0, .int .i64 0, .string ⟨#[]⟩, .slice none 0 0, .slice none 0 0] 26))
  have HSP := hid (split_any t m _ ht' (KZ.out.cell_some hm (by simp)))
  have HKI : Hid (keyI t = match rdK 10 9 (cutB 32 t) with | some (k, _, _) => if t ≠ [] ∧ fmtV k = t then some k else none | none => none) := rfl
  have HP := hid (fun x (hx : x ∈ cutB 32 t) => show x.length + 1 ≤ bigN by have := cutB_part 32 t x hx; omega)
  have HF := hid hF
  generalize cutB 32 t = ws at HSP HKI HP
  clear hF hm ht ht'
  go_enter Tryz.func10, Tryz.ntmps10
  go_wp2_with fail
  refine HSP.out.mono ?_
  rintro e w1 ⟨a, cap, rfl, hS, hK⟩
  have HK1 := hid (KZ.out.trans hK)
  have HZ1 := hid (hK.same HZ.out (by simp))
  have HRB := hid (new_block w1 (Obj.cells #[.slice a ws.length cap, .int .i64 9] 48))
  have KR := hid ((Kept.refl [] w1).alloc (Obj.cells #[.slice a ws.length cap, .int .i64 9] 48))
  have HC := hid (key_goes w1 (HF.out.kept0 HK1.out) 10 w1.heap.size 9 ws _ ⟨a, cap, HRB.out, hS⟩ KR.out (Nat.le_refl _) (by omega) (by omega) HP.out)
  clear hS hK HSP
  go_wp2_with fail
  refine HC.out.mono ?_
  rintro e w2 ⟨x, y, tt, s1, s2, s3, t1, t2, t3, ok, rfl, hK2, hres⟩
  have hz1 := lt_of_block HZ1.out
  have hZ2 := hK2.same (alloc_block HZ1.out _) (by simp; omega)
  have z0 := cell_of_block hZ2 0
  have z1 := cell_of_block hZ2 1
  have z2 := cell_of_block hZ2 2
  have z3 := cell_of_block hZ2 3
  have z4 := cell_of_block hZ2 4
  have f0 := frozen_of_block hZ2 0
  have f1 := frozen_of_block hZ2 1
  have f2 := frozen_of_block hZ2 2
  have f3 := frozen_of_block hZ2 3
  have f4 := frozen_of_block hZ2 4
  have hzl := lt_of_block hZ2
  simp at z0 z1 z2 z3 z4
  have HK2 := hid ((HK1.out.trans KR.out).newB hK2 (by have := HK1.out.size; omega))
  have HZ2 := hid hZ2
  have hsz1 := HK1.out.size
  cases hr : rdK 10 9 ws with
  | none =>
    rw [hr] at hres
    dsimp only at hres
    subst hres
    have HN : Hid (keyI t = none) := by show _ = _; rw [HKI.out, hr]
    clear hZ2 hK2 hr
    go_wp2
    refine bodyPost_ret (v := .tuple #[.agg #[.int .i64 0, .int .i64 0, .string ⟨#[]⟩, .slice none 0 0, .slice none 0 0], .bool false]) (by simp [results, Tryz.results10, go_sem, z0, z1, z2, z3, z4, hzl]) rfl ?_
    rw [HN.out]
    refine ⟨_, _, _, _, _, _, rfl, ?_, keyX_leaf _ _ _ _ _ (Nat.zero_le _) (spansX_none _ _ _)⟩
    repeat' with_reducible first | exact HK2.out | refine Kept.alloc ?_ _ | refine Kept.setCell ?_ _ _ (by first | (simp; done) | (simp; omega))
  | some kq =>
    obtain ⟨k, q, ws'⟩ := kq
    rw [hr] at hres
    obtain ⟨rfl, rfl, rfl, rfl, hX, -⟩ := hres
    have HX := hid hX
    have HKD := hid (new_block w2 (Obj.cells #[.int .i64 k.kind, .int .i64 k.flag, .string (bs k.text), .slice s1 s2 s3, .slice t1 t2 t3] 26))
    have KD := hid ((Kept.refl [] w2).alloc (Obj.cells #[.int .i64 k.kind, .int .i64 k.flag, .string (bs k.text), .slice s1 s2 s3, .slice t1 t2 t3] 26))
    have HKF := hid (fun W (hW : Kept [] w2 W) => iKeyFormat_any 0 (.agg #[.int .i64 k.kind, .int .i64 k.flag, .string (bs k.text), .slice s1 s2 s3, .slice t1 t2 t3]) k W (KeyAt.kept0 ⟨_, _, rfl, KeyIn.low (Nat.zero_le _) k _ _ (KeyX.in_ k _ _ HX.out)⟩ hW) (HF.out.kept0 (HK2.out.trans hW)))
    have HI : Hid (keyI t = if t ≠ [] ∧ fmtV k = t then some k else none) := by show _ = _; rw [HKI.out, hr]
    clear hX hr hZ2 hK2 HKI HC
    by_cases ht0 : t = []
    · have HN : Hid (keyI t = none) := by show _ = _; rw [HI.out, if_neg (fun h => h.1 ht0)]
      have h1 : ((bs t).toList == []) = true := str_yes ht0
      clear ht0
      go_wp2
      refine bodyPost_ret (v := .tuple #[.agg #[.int .i64 0, .int .i64 0, .string ⟨#[]⟩, .slice none 0 0, .slice none 0 0], .bool false]) (by simp [results, Tryz.results10, go_sem, z0, z1, z2, z3, z4, hzl]) rfl ?_
      rw [HN.out]
      refine ⟨_, _, _, _, _, _, rfl, ?_, keyX_leaf _ _ _ _ _ (Nat.zero_le _) (spansX_none _ _ _)⟩
      repeat' with_reducible first | exact HK2.out | refine Kept.alloc ?_ _ | refine Kept.setCell ?_ _ _ (by first | (simp; done) | (simp; omega))
    · have h1 : ((bs t).toList == []) = false := str_ne ht0
      by_cases hfm : fmtV k = t
      · have HN : Hid (keyI t = some k) := by show _ = _; rw [HI.out, if_pos ⟨ht0, hfm⟩]
        have h2 : ((bs (fmtV k)).toList == (bs t).toList) = true := by rw [beq_bs', decide_eq_true hfm]
        clear ht0 hfm
        go_wp2_with fail
        refine (HKF.out _ KD.out).mono ?_
        rintro e w3 ⟨rfl, hK3⟩
        have hZ3 := hK3.same (alloc_block HZ2.out _) (by simp)
        have z0 := cell_of_block hZ3 0
        have z1 := cell_of_block hZ3 1
        have z2 := cell_of_block hZ3 2
        have z3 := cell_of_block hZ3 3
        have z4 := cell_of_block hZ3 4
        have f0 := frozen_of_block hZ3 0
        have f1 := frozen_of_block hZ3 1
        have f2 := frozen_of_block hZ3 2
        have f3 := frozen_of_block hZ3 3
        have f4 := frozen_of_block hZ3 4
        have hzl := lt_of_block hZ3
        simp at z0 z1 z2 z3 z4
        have hd := hK3.same HKD.out (by simp)
        have d0 := cell_of_block hd 0
        have d1 := cell_of_block hd 1
        have d2 := cell_of_block hd 2
        have d3 := cell_of_block hd 3
        have d4 := cell_of_block hd 4
        have hdl := lt_of_block hd
        simp at d0 d1 d2 d3 d4
        have HK3 := hid (HK2.out.trans (KD.out.trans hK3))
        have HX3 := hid (KeyX.kept (KD.out.trans hK3) (by simp) k _ _ HX.out)
        have hs3 := (KD.out.trans hK3).size
        clear hZ3 hK3 hd
        go_wp2
        refine bodyPost_ret (v := .tuple #[.agg #[.int .i64 k.kind, .int .i64 k.flag, .string (bs k.text), .slice s1 s2 s3, .slice t1 t2 t3], .bool true]) (by simp [results, Tryz.results10, go_sem, z0, z1, z2, z3, z4]) rfl ?_
        rw [HN.out]
        refine ⟨s1, s2, s3, t1, t2, t3, rfl, ?_, (KeyX.kept (bs := [w.heap.size]) ?_ ?_ k _ _ HX3.out).wide ?_ ?_⟩
        · repeat' with_reducible first | exact HK3.out | refine Kept.alloc ?_ _ | refine Kept.setCell ?_ _ _ (by first | (simp; done) | (simp; omega))
        · repeat' with_reducible first | exact Kept.refl _ _ | refine Kept.setCell ?_ _ _ (by simp)
        · simp; omega
        · simp; omega
        · simp [World.setCell]; omega
      · have HN : Hid (keyI t = none) := by show _ = _; rw [HI.out, if_neg (fun h => hfm h.2)]
        have h2 : ((bs (fmtV k)).toList == (bs t).toList) = false := by rw [beq_bs', decide_eq_false hfm]
        clear ht0 hfm
        go_wp2_with fail
        refine (HKF.out _ KD.out).mono ?_
        rintro e w3 ⟨rfl, hK3⟩
        have hZ3 := hK3.same (alloc_block HZ2.out _) (by simp)
        have z0 := cell_of_block hZ3 0
        have z1 := cell_of_block hZ3 1
        have z2 := cell_of_block hZ3 2
        have z3 := cell_of_block hZ3 3
        have z4 := cell_of_block hZ3 4
        have f0 := frozen_of_block hZ3 0
        have f1 := frozen_of_block hZ3 1
        have f2 := frozen_of_block hZ3 2
        have f3 := frozen_of_block hZ3 3
        have f4 := frozen_of_block hZ3 4
        have hzl := lt_of_block hZ3
        simp at z0 z1 z2 z3 z4
        have HK3 := hid (HK2.out.trans (KD.out.trans hK3))
        clear hZ3 hK3
        go_wp2
        refine bodyPost_ret (v := .tuple #[.agg #[.int .i64 0, .int .i64 0, .string ⟨#[]⟩, .slice none 0 0, .slice none 0 0], .bool false]) (by simp [results, Tryz.results10, go_sem, z0, z1, z2, z3, z4]) rfl ?_
        rw [HN.out]
        refine ⟨_, _, _, _, _, _, rfl, ?_, keyX_leaf _ _ _ _ _ (Nat.zero_le _) (spansX_none _ _ _)⟩
        repeat' with_reducible first | exact HK3.out | refine Kept.alloc ?_ _ | refine Kept.setCell ?_ _ _ (by first | (simp; done) | (simp; omega))
end Go.Proofs.YtoleonldkifcbaaGreatDoor
