/- The walk of KeyParse (spec). -/
import Derived.Test.YtoleonldkifcbaaGreatDoorKKf
import Derived.Test.YtoleonldkifcbaaGreatDoorKKd
namespace Go.Proofs.YtoleonldkifcbaaGreatDoor
open Go.RowKit

/-- The words of nodes in memory. -/
def kindsB : Obj := .cells #[.string ⟨#[110, 111, 116]⟩, .string ⟨#[97, 110, 100]⟩, .string ⟨#[111, 114]⟩] 9 (0, 0)
theorem wordJ_no {x : List UInt8} (h0 : x ≠ tNot) (h1 : x ≠ tAnd) (h2 : x ≠ tOr) : wordJ x = none := by
  unfold wordJ; rw [if_neg h0, if_neg h1, if_neg h2]
theorem read_end (n : Nat) (L : List (List UInt8)) (p : Nat) (h : ¬ p < L.length) : readK (n + 1) (L.drop p) = none := by
  rw [List.drop_eq_nil_of_le (by omega)]; rfl
theorem read_at (n : Nat) (L : List (List UInt8)) (p : Nat) (h : p < L.length) (x : List UInt8) (hx : L[p] = x) :
    readK (n + 1) (L.drop p) = match wordJ x with | some (kind, two) => if two = true then twoS n L (p + 1) kind else oneS n L (p + 1) kind | none => leafS x (L.drop (p + 1)) := by
  rw [List.drop_eq_getElem_cons h, hx]
  conv => lhs; unfold readK
  cases hj : wordJ x with
  | none => rfl
  | some kt =>
    obtain ⟨kind, two⟩ := kt
    dsimp only
    cases two with
    | true =>
      simp only [if_true, twoS]
      cases readK n (List.drop (p + 1) L) with
      | none => rfl
      | some y => obtain ⟨k1, r1⟩ := y; dsimp only; cases readK n r1 <;> rfl
    | false =>
      simp only [Bool.false_eq_true, if_false, oneS]
      cases readK n (List.drop (p + 1) L) <;> rfl
theorem readRes_back {w w1 w2 w3 : World} {A : Nat} {o : Option (Ky × List (List UInt8))} {L : List (List UInt8)} {k : Ky} {sv kv : Value} {n : Int}
    (h : match o with | some x => k = x.1 ∧ ∃ m : Nat, n = m ∧ m ≤ L.length ∧ x.2 = L.drop m | none => n = -1) (hX : KeyX w1.heap.size w2.heap.size w2 k sv kv)
    (hK : Kept [] w w2) (hs : w.heap.size ≤ w1.heap.size) (hA : A < w1.heap.size) (hwA : w.heap.size ≤ A) (hK3 : Kept [A] w2 w3) (hs3 : w2.heap.size ≤ w3.heap.size) :
    ReadRes o L w (.returned (.tuple #[.agg #[.int .i64 k.kind, .int .i64 k.flag, .string (bs k.text), sv, kv], .int .i64 n])) w3 :=
  ⟨k, sv, kv, n, rfl, hK.trans' hK3 (fun _ e _ => e) (fun z e hz => by simp at e; omega), (KeyX.kept hK3 (by simp; omega) k _ _ hX).wide hs hs3, h⟩

set_option maxRecDepth 100000 in
set_option maxHeartbeats 8000000 in
theorem read_step (n : Nat) (hG : ReadGoes n) : ReadGoes (n + 1) := by
  intro L wv p w hp hn hlL hS hL
  have HSS := hid hS
  obtain ⟨a, cap, b, off, rfl, hl, hcp, ha, hc⟩ := hS
  have hl63 : L.length ≤ 9223372036854775806 := by have h1 := Nat.le_trans hlL bigN_le; unfold maxLen at h1; omega
  by_cases hlt : p < L.length
  · obtain ⟨x, hx⟩ : ∃ x, L[p] = x := ⟨_, rfl⟩
    have HRD := hid (read_at n L p hlt x hx)
    obtain ⟨rfl, -, hbw⟩ := ha (by omega)
    have c0 := (hc p hlt).1
    rw [hx] at c0
    have HC0 := hid c0
    have i0 : ¬ (L.length : Int) ≤ p := by omega
    have i1 : (p : Int) < L.length := by omega
    have i4 : p < cap := by omega
    have i5 : (p : Int) + 1 ≤ 9223372036854775806 := by omega
    have HJ1 := hid (fun (kind : Int) W (hW : Kept [] w W) => show Calls Tryz.prog 50 #[.slice (some ⟨b, off, none⟩) L.length cap, .int .i64 ((p : Int) + 1), .int .i64 kind, .int .i64 1] W (ReadRes (oneS n L (p + 1) kind) L W) from by
      rw [show ((p : Int) + 1) = ((p + 1 : Nat) : Int) by omega]; exact join_one n hG L _ kind (p + 1) W (by omega) (by omega) hlL (HSS.out.kept0 hW) hL)
    have HJ2 := hid (fun (kind : Int) W (hW : Kept [] w W) => show Calls Tryz.prog 50 #[.slice (some ⟨b, off, none⟩) L.length cap, .int .i64 ((p : Int) + 1), .int .i64 kind, .int .i64 2] W (ReadRes (twoS n L (p + 1) kind) L W) from by
      rw [show ((p : Int) + 1) = ((p + 1 : Nat) : Int) by omega]; exact join_two n hG L _ kind (p + 1) W (by omega) (by omega) hlL (HSS.out.kept0 hW) hL)
    have HL := hid (fun W (hW : Kept [] w W) => show Calls Tryz.prog 51 #[.slice (some ⟨b, off, none⟩) L.length cap, .int .i64 p] W (LeafRes (leafS x (L.drop (p + 1))) (L.drop (p + 1)) W) from by
      rw [← hx]; exact l12Leaf_any L _ p hlt W (HSS.out.kept0 hW) hL)
    have HDL : Hid ((L.drop (p + 1)).length = L.length - (p + 1)) := List.length_drop
    have HDD : Hid (∀ m, (L.drop (p + 1)).drop m = L.drop (p + 1 + m)) := fun m => by rw [List.drop_drop]
    have HZ := hid (new_block w (Obj.cells #[.int .i64 0, .int .i64 0, .string ⟨#[]⟩, .slice none 0 0, .slice none 0 0] 26))
    have KA := hid ((Kept.refl [] w).alloc (Obj.cells #[.int .i64 0, .int .i64 0, .string ⟨#[]⟩, .slice none 0 0, .slice none 0 0] 26))
    have HZB := hid (alloc_block HZ.out kindsB)
    have HNB := hid (new_block2 w (Obj.cells #[.int .i64 0, .int .i64 0, .string ⟨#[]⟩, .slice none 0 0, .slice none 0 0] 26) kindsB)
    have KB := hid (KA.out.alloc kindsB)
    have HLT := hid hlt
    clear hc ha hcp hx hl hn hp c0
    obtain ⟨o, ho⟩ : ∃ o, readK (n + 1) (L.drop p) = o := ⟨_, rfl⟩
    rw [ho] at HRD ⊢
    clear ho hlt
    go_enter Tryz.func30, Tryz.ntmps30
    go_wp2
    go_loopg [7] 3 (fun m i W => ∃ z : Int, i = .int .i64 z ∧ Kept [] w W ∧ W.heap[w.heap.size]? = some (Obj.cells #[.int .i64 0, .int .i64 0, .string ⟨#[]⟩, .slice none 0 0, .slice none 0 0] 26 (0, 0)) ∧ W.heap[w.heap.size + 1]? = some kindsB ∧
      ((z = 0 ∧ m = 3) ∨ (z = 1 ∧ m = 2 ∧ x ≠ tNot) ∨ (z = 2 ∧ m = 1 ∧ x ≠ tNot ∧ x ≠ tAnd) ∨ (z = 3 ∧ m = 0 ∧ wordJ x = none)))
    case atStart => exact ⟨0, rfl, KB.out, HZB.out, HNB.out, .inl ⟨rfl, rfl⟩⟩
    case round =>
      obtain ⟨z, rfl, hK, hz, hnb, hcase⟩ := hrel
      have HK := hid hK
      have HZW := hid hz
      have HNW := hid hnb
      have hzl := lt_of_block hz
      have hnbl := lt_of_block hnb
      have c0 := hK.cell_some HC0.out (by simp)
      have k0 := cell_of_block hnb 0
      have k1 := cell_of_block hnb 1
      have k2 := cell_of_block hnb 2
      simp at k0 k1 k2
      clear hK hz hnb
      rcases hcase with ⟨rfl, rfl⟩ | ⟨rfl, rfl, h0⟩ | ⟨rfl, rfl, h0, h1⟩ | ⟨rfl, rfl, hwj⟩
      · skip
        by_cases hxw : x = tNot
        · have hq : ((bs x).toList == [110, 111, 116]) = true := str_yes hxw
          have HO : Hid (o = oneS n L (p + 1) 5) := by show _ = _; rw [HRD.out, hxw]; rfl
          clear hxw
          go_wp2
          go_quiet (fail)
          go_wp2_with fail
          refine (HJ1.out 5 _ (HK.out.drewN _)).mono ?_
          rintro e w2 ⟨kk, sv, kv, nx, rfl, hK2, hXX, hres⟩
          obtain ⟨s1, s2, s3, t1, t2, t3, rfl, rfl⟩ := hXX.form
          have hz2 := hK2.same (b := w.heap.size) (x := Obj.cells #[.int .i64 0, .int .i64 0, .string ⟨#[]⟩, .slice none 0 0, .slice none 0 0] 26 (0, 0)) HZW.out (by simp)
          have z0 := cell_of_block hz2 0
          have z1 := cell_of_block hz2 1
          have z2 := cell_of_block hz2 2
          have z3 := cell_of_block hz2 3
          have z4 := cell_of_block hz2 4
          simp at z0 z1 z2 z3 z4
          have f0 := frozen_of_block hz2 0
          have f1 := frozen_of_block hz2 1
          have f2 := frozen_of_block hz2 2
          have f3 := frozen_of_block hz2 3
          have f4 := frozen_of_block hz2 4
          have hzl := lt_of_block hz2
          have HX := hid hXX
          have HR := hid hres
          have HK2 := hid ((HK.out.drewN _).trans hK2)
          clear hXX hres hK2 hz2
          go_wp2
          refine bodyPost_ret (v := .tuple #[.agg #[.int .i64 kk.kind, .int .i64 kk.flag, .string (bs kk.text), .slice s1 s2 s3, .slice t1 t2 t3], .int .i64 nx]) (by simp [results, Tryz.results30, go_sem, z0, z1, z2, z3, z4]) rfl ?_
          rw [HO.out]
          refine readRes_back (w1 := wr) (w2 := w2) (A := w.heap.size) HR.out HX.out HK2.out HK.out.size (lt_of_block HZW.out) (Nat.le_refl _) ?_ ?_
          · repeat' with_reducible first | exact Kept.refl _ _ | refine Kept.setCell ?_ _ _ (by simp)
          · simp [World.setCell]
        · have hq : ((bs x).toList == [110, 111, 116]) = false := str_ne hxw
          have HXW := hid hxw
          clear hxw
          go_wp2
          go_quiet (fail)
          go_wp2
          go_roundg 2
          case measure => omega
          case rel =>
            exact ⟨1, by go_num, HK.out.drewN _, by simpa using HZW.out, by simpa using HNW.out, .inr (.inl ⟨rfl, rfl, HXW.out⟩)⟩
      · have H0 := hid h0
        clear h0
        by_cases hxw : x = tAnd
        · have hq : ((bs x).toList == [97, 110, 100]) = true := str_yes hxw
          have HO : Hid (o = twoS n L (p + 1) 6) := by show _ = _; rw [HRD.out, hxw]; rfl
          clear hxw
          go_wp2
          go_quiet (fail)
          go_wp2_with fail
          refine (HJ2.out 6 _ (HK.out.drewN _)).mono ?_
          rintro e w2 ⟨kk, sv, kv, nx, rfl, hK2, hXX, hres⟩
          obtain ⟨s1, s2, s3, t1, t2, t3, rfl, rfl⟩ := hXX.form
          have hz2 := hK2.same (b := w.heap.size) (x := Obj.cells #[.int .i64 0, .int .i64 0, .string ⟨#[]⟩, .slice none 0 0, .slice none 0 0] 26 (0, 0)) HZW.out (by simp)
          have z0 := cell_of_block hz2 0
          have z1 := cell_of_block hz2 1
          have z2 := cell_of_block hz2 2
          have z3 := cell_of_block hz2 3
          have z4 := cell_of_block hz2 4
          simp at z0 z1 z2 z3 z4
          have f0 := frozen_of_block hz2 0
          have f1 := frozen_of_block hz2 1
          have f2 := frozen_of_block hz2 2
          have f3 := frozen_of_block hz2 3
          have f4 := frozen_of_block hz2 4
          have hzl := lt_of_block hz2
          have HX := hid hXX
          have HR := hid hres
          have HK2 := hid ((HK.out.drewN _).trans hK2)
          clear hXX hres hK2 hz2
          go_wp2
          refine bodyPost_ret (v := .tuple #[.agg #[.int .i64 kk.kind, .int .i64 kk.flag, .string (bs kk.text), .slice s1 s2 s3, .slice t1 t2 t3], .int .i64 nx]) (by simp [results, Tryz.results30, go_sem, z0, z1, z2, z3, z4]) rfl ?_
          rw [HO.out]
          refine readRes_back (w1 := wr) (w2 := w2) (A := w.heap.size) HR.out HX.out HK2.out HK.out.size (lt_of_block HZW.out) (Nat.le_refl _) ?_ ?_
          · repeat' with_reducible first | exact Kept.refl _ _ | refine Kept.setCell ?_ _ _ (by simp)
          · simp [World.setCell]
        · have hq : ((bs x).toList == [97, 110, 100]) = false := str_ne hxw
          have HXW := hid hxw
          clear hxw
          go_wp2
          go_quiet (fail)
          go_wp2
          go_roundg 1
          case measure => omega
          case rel =>
            exact ⟨2, by go_num, HK.out.drewN _, by simpa using HZW.out, by simpa using HNW.out, .inr (.inr (.inl ⟨rfl, rfl, H0.out, HXW.out⟩))⟩
      · have H0 := hid h0
        have H1 := hid h1
        clear h0 h1
        by_cases hxw : x = tOr
        · have hq : ((bs x).toList == [111, 114]) = true := str_yes hxw
          have HO : Hid (o = twoS n L (p + 1) 7) := by show _ = _; rw [HRD.out, hxw]; rfl
          clear hxw
          go_wp2
          go_quiet (fail)
          go_wp2_with fail
          refine (HJ2.out 7 _ (HK.out.drewN _)).mono ?_
          rintro e w2 ⟨kk, sv, kv, nx, rfl, hK2, hXX, hres⟩
          obtain ⟨s1, s2, s3, t1, t2, t3, rfl, rfl⟩ := hXX.form
          have hz2 := hK2.same (b := w.heap.size) (x := Obj.cells #[.int .i64 0, .int .i64 0, .string ⟨#[]⟩, .slice none 0 0, .slice none 0 0] 26 (0, 0)) HZW.out (by simp)
          have z0 := cell_of_block hz2 0
          have z1 := cell_of_block hz2 1
          have z2 := cell_of_block hz2 2
          have z3 := cell_of_block hz2 3
          have z4 := cell_of_block hz2 4
          simp at z0 z1 z2 z3 z4
          have f0 := frozen_of_block hz2 0
          have f1 := frozen_of_block hz2 1
          have f2 := frozen_of_block hz2 2
          have f3 := frozen_of_block hz2 3
          have f4 := frozen_of_block hz2 4
          have hzl := lt_of_block hz2
          have HX := hid hXX
          have HR := hid hres
          have HK2 := hid ((HK.out.drewN _).trans hK2)
          clear hXX hres hK2 hz2
          go_wp2
          refine bodyPost_ret (v := .tuple #[.agg #[.int .i64 kk.kind, .int .i64 kk.flag, .string (bs kk.text), .slice s1 s2 s3, .slice t1 t2 t3], .int .i64 nx]) (by simp [results, Tryz.results30, go_sem, z0, z1, z2, z3, z4]) rfl ?_
          rw [HO.out]
          refine readRes_back (w1 := wr) (w2 := w2) (A := w.heap.size) HR.out HX.out HK2.out HK.out.size (lt_of_block HZW.out) (Nat.le_refl _) ?_ ?_
          · repeat' with_reducible first | exact Kept.refl _ _ | refine Kept.setCell ?_ _ _ (by simp)
          · simp [World.setCell]
        · have hq : ((bs x).toList == [111, 114]) = false := str_ne hxw
          have HXW := hid hxw
          clear hxw
          go_wp2
          go_quiet (fail)
          go_wp2
          go_roundg 0
          case measure => omega
          case rel =>
            exact ⟨3, by go_num, HK.out.drewN _, by simpa using HZW.out, by simpa using HNW.out, .inr (.inr (.inr ⟨rfl, rfl, wordJ_no H0.out H1.out HXW.out⟩))⟩
      · have HO : Hid (o = leafS x (L.drop (p + 1))) := by show _ = _; rw [HRD.out, hwj]
        clear hwj
        have HLW := hid (HL.out _ HK.out)
        generalize leafS x (L.drop (p + 1)) = q at HLW HO
        go_wp2_with fail
        refine HLW.out.mono ?_
        rintro e w2 ⟨kk, sv, kv, nn, rfl, hK2, hXX, hres⟩
        obtain ⟨s1, s2, s3, t1, t2, t3, rfl, rfl⟩ := hXX.form
        have hz2 := hK2.same (b := w.heap.size) (x := Obj.cells #[.int .i64 0, .int .i64 0, .string ⟨#[]⟩, .slice none 0 0, .slice none 0 0] 26 (0, 0)) HZW.out (by simp)
        have z0 := cell_of_block hz2 0
        have z1 := cell_of_block hz2 1
        have z2 := cell_of_block hz2 2
        have z3 := cell_of_block hz2 3
        have z4 := cell_of_block hz2 4
        simp at z0 z1 z2 z3 z4
        have f0 := frozen_of_block hz2 0
        have f1 := frozen_of_block hz2 1
        have f2 := frozen_of_block hz2 2
        have f3 := frozen_of_block hz2 3
        have f4 := frozen_of_block hz2 4
        have hzl := lt_of_block hz2
        have HX := hid hXX
        have HK2 := hid (HK.out.trans hK2)
        have hsz := hK2.size
        clear hXX hK2 hz2
        cases q with
        | none =>
          have hres : nn = 0 := hres
          subst hres
          have HN : Hid ((none : Option (Ky × List (List UInt8))) = none) := rfl
          go_wp2
          refine bodyPost_ret (v := .tuple #[.agg #[.int .i64 0, .int .i64 0, .string ⟨#[]⟩, .slice none 0 0, .slice none 0 0], .int .i64 (-1)]) (by simp [results, Tryz.results30, go_sem, z0, z1, z2, z3, z4, hzl]) rfl ?_
          rw [HO.out]
          refine ⟨.mk 0 0 [] [] [], _, _, -1, rfl, ?_, keyX_leaf _ _ _ _ _ (Nat.zero_le _) (spansX_none _ _ _), rfl⟩
          repeat' with_reducible first | exact HK2.out | refine Kept.alloc ?_ _ | refine Kept.setCell ?_ _ _ (by first | (simp; done) | (simp; omega))
        | some y =>
          obtain ⟨rfl, hnn, hd, hle⟩ := hres
          have hn0 : ((nn : Int) == 0) = false := by rw [beq_eq_false_iff_ne]; omega
          have hnp : (p : Int) + nn ≤ 9223372036854775807 := by omega
          have HD := hid hd
          have hle2 : p + nn ≤ L.length := by rw [HDL.out] at hle; have := HLT.out; omega
          have HN1 : Hid (1 ≤ nn) := by show _ ≤ _; omega
          have HLE := hid hle2
          clear hd hnn hle hle2
          obtain ⟨kk, rr⟩ := y
          dsimp only at HX HD ⊢
          go_wp2
          refine bodyPost_ret (v := .tuple #[.agg #[.int .i64 kk.kind, .int .i64 kk.flag, .string (bs kk.text), .slice s1 s2 s3, .slice t1 t2 t3], .int .i64 ((p : Int) + nn)]) (by simp [results, Tryz.results30, go_sem, z0, z1, z2, z3, z4, hzl]) rfl ?_
          rw [HO.out]
          refine readRes_back (w1 := wr) (w2 := w2) (A := w.heap.size) ⟨rfl, p + nn, by omega, HLE.out, ?_⟩ HX.out HK2.out HK.out.size (lt_of_block HZW.out) (Nat.le_refl _) ?_ ?_
          · rw [HD.out, HDD.out]; have h1 := HN1.out; rw [show p + 1 + (nn - 1) = p + nn by omega]
          · repeat' with_reducible first | exact Kept.refl _ _ | refine Kept.alloc ?_ _ | refine Kept.setCell ?_ _ _ (by simp)
          · simp [World.setCell]
  · have HN : Hid (readK (n + 1) (L.drop p) = none) := read_end n L p hlt
    have i0 : (L.length : Int) ≤ p := by omega
    have HZ := hid (new_block w (Obj.cells #[.int .i64 0, .int .i64 0, .string ⟨#[]⟩, .slice none 0 0, .slice none 0 0] 26))
    have KA := hid ((Kept.refl [] w).alloc (Obj.cells #[.int .i64 0, .int .i64 0, .string ⟨#[]⟩, .slice none 0 0, .slice none 0 0] 26))
    clear ha hc hcp hl hn hp HSS
    rw [HN.out]
    have hz := HZ.out
    have z0 := cell_of_block hz 0
    have z1 := cell_of_block hz 1
    have z2 := cell_of_block hz 2
    have z3 := cell_of_block hz 3
    have z4 := cell_of_block hz 4
    simp at z0 z1 z2 z3 z4
    have hzl := lt_of_block hz
    clear hz
    go_enter Tryz.func30, Tryz.ntmps30
    go_wp2
    refine bodyPost_ret (v := .tuple #[.agg #[.int .i64 0, .int .i64 0, .string ⟨#[]⟩, .slice none 0 0, .slice none 0 0], .int .i64 (-1)]) (by simp [results, Tryz.results30, go_sem]) rfl ?_
    refine ⟨.mk 0 0 [] [] [], _, _, -1, rfl, ?_, keyX_leaf _ _ _ _ _ (Nat.zero_le _) (spansX_none _ _ _), rfl⟩
    repeat' with_reducible first | exact KA.out | refine Kept.alloc ?_ _ | refine Kept.setCell ?_ _ _ (by first | (simp; done) | (simp; omega))
theorem read_goes : ∀ n, ReadGoes n
  | 0 => fun _ _ _ _ _ h => absurd h (Nat.not_lt_zero _)
  | n + 1 => read_step n (read_goes n)
end Go.Proofs.YtoleonldkifcbaaGreatDoor
namespace Go.Proofs.YtoleonldkifcbaaGreatDoor
open Go.RowKit

set_option maxRecDepth 100000 in
set_option maxHeartbeats 8000000 in
theorem sKeyParse_any (t : List UInt8) (w : World) (ht : t.length + 1 ≤ bigN - 1) :
    Calls Tryz.prog 13 #[.string (bs t)] w (ParseRes (keyS t) w) := by
  have ht' : t.length + 1 ≤ bigN := by omega
  have HZ := hid (new_block w (Obj.cells #[.int .i64 0, .int .i64 0, .string ⟨#[]⟩, .slice none 0 0, .slice none 0 0] 26))
  have KZ := hid ((Kept.refl [] w).alloc (Obj.cells #[.int .i64 0, .int .i64 0, .string ⟨#[]⟩, .slice none 0 0, .slice none 0 0] 26))
  have HSP := hid (fun W => l1Cut_strs t 32 32 rfl W ht')
  have HKI : Hid (keyS t = match readK ((cutB 32 t).length + 1) (cutB 32 t) with | some (k, []) => if validK k = true ∧ fmtK k = t then some k else none | _ => none) := rfl
  have HP := hid (fun x (hx : x ∈ cutB 32 t) => show x.length + 1 ≤ bigN by have := cutB_part 32 t x hx; omega)
  have HLC : Hid ((cutB 32 t).length + 1 ≤ bigN) := by show _ ≤ _; have := cutB_len 32 t; omega
  generalize cutB 32 t = ws at HSP HKI HP HLC
  have hl63 : ws.length ≤ 9223372036854775806 := by have h1 := Nat.le_trans HLC.out bigN_le; unfold maxLen at h1; omega
  have HRG := hid (fun v W (hS : StrsAt 0 W v ws) => show Calls Tryz.prog 30 #[v, .int .i64 0] W (ReadRes (readK (ws.length + 1) ws) ws W) from
    read_goes (ws.length + 1) ws v 0 W (Nat.zero_le _) (by omega) HLC.out hS HP.out)
  have HND := hid (fun k r (h : readK (ws.length + 1) ws = some (k, r)) => show nodesK k ≤ bigN from by have := readK_nodes _ _ _ _ h; have := HLC.out; omega)
  generalize readK (ws.length + 1) ws = o at HKI HRG HND
  clear ht ht'
  go_enter Tryz.func13, Tryz.ntmps13
  go_wp2_with fail
  refine (HSP.out _).mono ?_
  rintro e w1 ⟨a, cap, rfl, hS, hK⟩
  have HK1 := hid (KZ.out.trans hK)
  have HZ1 := hid (hK.same HZ.out (by simp))
  have HC := hid (HRG.out _ w1 hS)
  clear hS hK HSP HRG
  go_wp2_with fail
  refine HC.out.mono ?_
  rintro e w2 ⟨k, sv, kv, n, rfl, hK2, hX, hres⟩
  obtain ⟨s1, s2, s3, t1, t2, t3, rfl, rfl⟩ := hX.form
  have HX := hid hX
  have HK2 := hid (HK1.out.trans hK2)
  have hsz1 := HK1.out.size
  have HZ2 := hid (hK2.same HZ1.out (by simp))
  have HKD := hid (new_block w2 (Obj.cells #[.int .i64 k.kind, .int .i64 k.flag, .string (bs k.text), .slice s1 s2 s3, .slice t1 t2 t3] 26))
  have KD := hid ((Kept.refl [] w2).alloc (Obj.cells #[.int .i64 k.kind, .int .i64 k.flag, .string (bs k.text), .slice s1 s2 s3, .slice t1 t2 t3] 26))
  have hs2 := HK2.out.size
  have hzw := lt_of_block HZ1.out
  have hz := alloc_block HZ2.out (Obj.cells #[.int .i64 k.kind, .int .i64 k.flag, .string (bs k.text), .slice s1 s2 s3, .slice t1 t2 t3] 26)
  have z0 := cell_of_block hz 0
  have z1 := cell_of_block hz 1
  have z2 := cell_of_block hz 2
  have z3 := cell_of_block hz 3
  have z4 := cell_of_block hz 4
  simp at z0 z1 z2 z3 z4
  have f0 := frozen_of_block hz 0
  have f1 := frozen_of_block hz 1
  have f2 := frozen_of_block hz 2
  have f3 := frozen_of_block hz 3
  have f4 := frozen_of_block hz 4
  have hzl := lt_of_block hz
  clear hz
  clear hX hK2 HC
  cases o with
  | none =>
    have hres : n = -1 := hres
    subst hres
    have hne : ((-1 : Int) == (ws.length : Int)) = false := by rw [beq_eq_false_iff_ne]; omega
    have HN : Hid (keyS t = none) := by show _ = _; rw [HKI.out]
    go_wp2
    refine bodyPost_ret (v := .tuple #[.agg #[.int .i64 0, .int .i64 0, .string ⟨#[]⟩, .slice none 0 0, .slice none 0 0], .bool false]) (by simp [results, Tryz.results13, go_sem, z0, z1, z2, z3, z4]) rfl ?_
    rw [HN.out]
    refine ⟨_, _, _, _, _, _, rfl, ?_, keyX_leaf _ _ _ _ _ (Nat.zero_le _) (spansX_none _ _ _)⟩
    repeat' with_reducible first | exact HK2.out | refine Kept.alloc ?_ _ | refine Kept.setCell ?_ _ _ (by first | (simp; done) | (simp; omega))
  | some y =>
    obtain ⟨ky, r⟩ := y
    obtain ⟨hkk, m, rfl, hm, hr⟩ := hres
    have hkk : ky = k := hkk.symm
    subst hkk
    dsimp only at hr HX HKD KD
    by_cases hml : m = ws.length
    · subst hml
      have hrn : r = [] := by rw [hr, List.drop_length]
      subst hrn
      have HNK := hid (HND.out ky [] rfl)
      have HI : Hid (keyS t = if validK ky = true ∧ fmtK ky = t then some ky else none) := by show _ = _; rw [HKI.out]
      have HKV := hid (fun W (hW : Kept [] w2 W) => sKeyValid_any 0 ky (.slice s1 s2 s3) (.slice t1 t2 t3) W HNK.out (KeyIn.low (Nat.zero_le _) ky _ _ (KeyX.in_ ky _ _ (KeyX.kept hW (by simp) ky _ _ HX.out))))
      have HKF := hid (fun (hv : validK ky = true) W (hW : Kept [] w2 W) => l12Format_any 0 ky (.slice s1 s2 s3) (.slice t1 t2 t3) W hv (KeyIn.low (Nat.zero_le _) ky _ _ (KeyX.in_ ky _ _ (KeyX.kept hW (by simp) ky _ _ HX.out))))
      clear hr HKI HND hm HNK
      obtain ⟨vv, hvv⟩ : ∃ vv, validK ky = vv := ⟨_, rfl⟩
      rw [hvv] at HKV HKF HI
      clear hvv
      clear z0 z1 z2 z3 z4 f0 f1 f2 f3 f4 hzl
      go_wp2_with fail
      refine (HKV.out _ KD.out).mono ?_
      rintro e w3 ⟨rfl, hK3⟩
      have HK3 := hid (KD.out.trans hK3)
      have HD3 := hid (hK3.same HKD.out (by simp))
      have HZ3 := hid (hK3.same (alloc_block HZ2.out (Obj.cells #[.int .i64 ky.kind, .int .i64 ky.flag, .string (bs ky.text), .slice s1 s2 s3, .slice t1 t2 t3] 26)) (by simp))
      clear hK3
      have hz := HZ3.out
      have z0 := cell_of_block hz 0
      have z1 := cell_of_block hz 1
      have z2 := cell_of_block hz 2
      have z3 := cell_of_block hz 3
      have z4 := cell_of_block hz 4
      simp at z0 z1 z2 z3 z4
      have f0 := frozen_of_block hz 0
      have f1 := frozen_of_block hz 1
      have f2 := frozen_of_block hz 2
      have f3 := frozen_of_block hz 3
      have f4 := frozen_of_block hz 4
      have hzl := lt_of_block hz
      clear hz
      cases vv with
      | false =>
        have HN : Hid (keyS t = none) := by show _ = _; rw [HI.out, if_neg (fun h => by cases h.1)]
        go_wp2
        refine bodyPost_ret (v := .tuple #[.agg #[.int .i64 0, .int .i64 0, .string ⟨#[]⟩, .slice none 0 0, .slice none 0 0], .bool false]) (by simp [results, Tryz.results13, go_sem, z0, z1, z2, z3, z4]) rfl ?_
        rw [HN.out]
        refine ⟨_, _, _, _, _, _, rfl, ?_, keyX_leaf _ _ _ _ _ (Nat.zero_le _) (spansX_none _ _ _)⟩
        repeat' with_reducible first | exact (HK2.out.trans HK3.out) | refine Kept.alloc ?_ _ | refine Kept.setCell ?_ _ _ (by first | (simp; done) | (simp; omega))
      | true =>
        clear z0 z1 z2 z3 z4 f0 f1 f2 f3 f4 hzl
        have hd := HD3.out
        have d0 := cell_of_block hd 0
        have d1 := cell_of_block hd 1
        have d2 := cell_of_block hd 2
        have d3 := cell_of_block hd 3
        have d4 := cell_of_block hd 4
        simp at d0 d1 d2 d3 d4
        have hdl := lt_of_block hd
        clear hd
        go_wp2_with fail
        refine (HKF.out (by trivial) _ HK3.out).mono ?_
        rintro e w4 ⟨rfl, hK4⟩
        have HK4 := hid (HK3.out.trans hK4)
        have HD4 := hid (hK4.same HD3.out (by simp))
        have HZ4 := hid (hK4.same HZ3.out (by simp))
        clear hK4 d0 d1 d2 d3 d4 hdl
        have hz := HZ4.out
        have z0 := cell_of_block hz 0
        have z1 := cell_of_block hz 1
        have z2 := cell_of_block hz 2
        have z3 := cell_of_block hz 3
        have z4 := cell_of_block hz 4
        simp at z0 z1 z2 z3 z4
        have f0 := frozen_of_block hz 0
        have f1 := frozen_of_block hz 1
        have f2 := frozen_of_block hz 2
        have f3 := frozen_of_block hz 3
        have f4 := frozen_of_block hz 4
        have hzl := lt_of_block hz
        clear hz
        have hd := HD4.out
        have d0 := cell_of_block hd 0
        have d1 := cell_of_block hd 1
        have d2 := cell_of_block hd 2
        have d3 := cell_of_block hd 3
        have d4 := cell_of_block hd 4
        simp at d0 d1 d2 d3 d4
        have hdl := lt_of_block hd
        clear hd
        have HX4 := hid (KeyX.kept HK4.out (by simp) ky _ _ HX.out)
        have hs4 := HK4.out.size
        by_cases hfm : fmtK ky = t
        · have HN : Hid (keyS t = some ky) := by show _ = _; rw [HI.out, if_pos ⟨by trivial, hfm⟩]
          have h2 : ((bs (fmtK ky)).toList == (bs t).toList) = true := by rw [beq_bs', decide_eq_true hfm]
          clear hfm
          go_wp2
          refine bodyPost_ret (v := .tuple #[.agg #[.int .i64 ky.kind, .int .i64 ky.flag, .string (bs ky.text), .slice s1 s2 s3, .slice t1 t2 t3], .bool true]) (by simp [results, Tryz.results13, go_sem, z0, z1, z2, z3, z4]) rfl ?_
          rw [HN.out]
          refine ⟨s1, s2, s3, t1, t2, t3, rfl, ?_, (KeyX.kept (bs := [w.heap.size]) ?_ ?_ ky _ _ HX4.out).wide ?_ ?_⟩
          · repeat' with_reducible first | exact (HK2.out.trans HK4.out) | refine Kept.alloc ?_ _ | refine Kept.setCell ?_ _ _ (by first | (simp; done) | (simp; omega))
          · repeat' with_reducible first | exact Kept.refl _ _ | refine Kept.setCell ?_ _ _ (by simp)
          · simp; omega
          · omega
          · simp [World.setCell]; omega
        · have HN : Hid (keyS t = none) := by show _ = _; rw [HI.out, if_neg (fun h => hfm h.2)]
          have h2 : ((bs (fmtK ky)).toList == (bs t).toList) = false := by rw [beq_bs', decide_eq_false hfm]
          clear hfm
          go_wp2
          refine bodyPost_ret (v := .tuple #[.agg #[.int .i64 0, .int .i64 0, .string ⟨#[]⟩, .slice none 0 0, .slice none 0 0], .bool false]) (by simp [results, Tryz.results13, go_sem, z0, z1, z2, z3, z4]) rfl ?_
          rw [HN.out]
          refine ⟨_, _, _, _, _, _, rfl, ?_, keyX_leaf _ _ _ _ _ (Nat.zero_le _) (spansX_none _ _ _)⟩
          repeat' with_reducible first | exact (HK2.out.trans HK4.out) | refine Kept.alloc ?_ _ | refine Kept.setCell ?_ _ _ (by first | (simp; done) | (simp; omega))
    · have hne : ((m : Int) == (ws.length : Int)) = false := by rw [beq_eq_false_iff_ne]; omega
      have HN : Hid (keyS t = none) := by
        show _ = _
        rw [HKI.out, hr]
        rw [List.drop_eq_getElem_cons (show m < ws.length by omega)]
      clear hr HKI HND
      go_wp2
      refine bodyPost_ret (v := .tuple #[.agg #[.int .i64 0, .int .i64 0, .string ⟨#[]⟩, .slice none 0 0, .slice none 0 0], .bool false]) (by simp [results, Tryz.results13, go_sem, z0, z1, z2, z3, z4]) rfl ?_
      rw [HN.out]
      refine ⟨_, _, _, _, _, _, rfl, ?_, keyX_leaf _ _ _ _ _ (Nat.zero_le _) (spansX_none _ _ _)⟩
      repeat' with_reducible first | exact HK2.out | refine Kept.alloc ?_ _ | refine Kept.setCell ?_ _ _ (by first | (simp; done) | (simp; omega))
end Go.Proofs.YtoleonldkifcbaaGreatDoor
