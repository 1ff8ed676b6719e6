/- The walks of the draws: the arguments of the laws on keys. -/
import Derived.Test.YtoleonldkifcbaaGreatDoorKDb
import Derived.Test.YtoleonldkifcbaaGreatDoorKKe
import Derived.Test.YtoleonldkifcbaaGreatDoorKMb
namespace Go.Proofs.YtoleonldkifcbaaGreatDoor
open Go.RowKit

theorem CodeAt.kept {w w' : World} {v : Value} (h : CodeAt w v) (K : Kept [] w w') : CodeAt w' v := by
  obtain ⟨a, cap, b, off, xs, h1, h2, h3, h4⟩ := h
  exact ⟨a, cap, b, off, xs, h1, h2, fun h0 => ⟨(h3 h0).1, Nat.lt_of_lt_of_le (h3 h0).2 K.size⟩, fun j hj => K.cell_some (h4 j hj) (by simp)⟩
theorem fmtV_len (k : Ky) : (fmtV k).length ≤ 450 := by
  unfold fmtV
  split
  · rename_i h
    obtain ⟨h1, h2⟩ := validK_all h
    have := (wordsK_ok k h1).2.2.2.2; omega
  · simp
theorem keyIn_alter {lo : Nat} {w : World} {k : Ky} {sv kv : Value} (h : KeyIn lo w k sv kv) (a b : Int) (c : List UInt8) (hc : c.length ≤ bigN) : KeyIn lo w (.mk a b c k.set k.keys) sv kv := by
  cases k
  unfold KeyIn at h ⊢
  exact ⟨hc, h.2⟩
theorem nodes_alter (k : Ky) (a b : Int) (c : List UInt8) : nodesK (.mk a b c k.set k.keys) = nodesK k := by cases k; unfold nodesK; rfl
theorem draws_go : ∀ d, d ≤ 100 → DrawsGo d
  | 0, _ => draws_zero
  | d + 1, h => draws_step d (by omega) (draws_go d (by omega))
theorem l91Key_any (rb N : Nat) (w : World) (h : RdAt w rb N) (hN : N ≤ 990000) :
    Calls Tryz.prog 26 #[.pointer (some ⟨rb, 0, none⟩), .int .i64 3] w (KeyDRes rb (N + 1100) 15 w) := by
  have h1 : costD 3 = 1064 := rfl
  have h2 : manyD 3 = 15 := rfl
  have := draws_go 3 (by omega) rb N w h (by rw [h1]; omega)
  rw [h1, h2] at this
  refine this.mono ?_
  rintro e w' ⟨k, sv, kv, rfl, hK, hX, hn, hR⟩
  exact ⟨k, sv, kv, rfl, hK, hX, hn, hR.mono (by omega)⟩

theorem take_cells1 {C : Array Value} {v0 v1 v2 v3 v4 : Value} (h0 : C[0]? = some v0) (h1 : C[0 + 1]? = some v1) (h2 : C[0 + 2]? = some v2) (h3 : C[0 + 3]? = some v3) (h4 : C[0 + 4]? = some v4) : C.toList.take (1 * 5) = [v0, v1, v2, v3, v4] := by
  obtain ⟨l⟩ := C
  match l, h0, h1, h2, h3, h4 with
  | a :: b :: c :: d :: e :: r, h0, h1, h2, h3, h4 => simp at h0 h1 h2 h3 h4; simp [h0, h1, h2, h3, h4]
theorem take_cells2 {C : Array Value} {v0 v1 v2 v3 v4 u0 u1 u2 u3 u4 : Value} (h0 : C[0]? = some v0) (h1 : C[0 + 1]? = some v1) (h2 : C[0 + 2]? = some v2) (h3 : C[0 + 3]? = some v3) (h4 : C[0 + 4]? = some v4)
    (i0 : C[0 + 5]? = some u0) (i1 : C[0 + 5 + 1]? = some u1) (i2 : C[0 + 5 + 2]? = some u2) (i3 : C[0 + 5 + 3]? = some u3) (i4 : C[0 + 5 + 4]? = some u4) : C.toList.take (2 * 5) = [v0, v1, v2, v3, v4] ++ [u0, u1, u2, u3, u4] := by
  obtain ⟨l⟩ := C
  match l, h0, h1, h2, h3, h4, i0, i1, i2, i3, i4 with
  | a :: b :: c :: d :: e :: f :: g :: h :: i :: j :: r, h0, h1, h2, h3, h4, i0, i1, i2, i3, i4 => simp at h0 h1 h2 h3 h4 i0 i1 i2 i3 i4; simp [h0, h1, h2, h3, h4, i0, i1, i2, i3, i4]

/-- What a draw of a key of any kind hands back. -/
def OddRes (rb : Nat) (w : World) (e : Ending) (w' : World) : Prop :=
  ∃ (k : Ky) (sv kv : Value), e = .returned (.agg #[.int .i64 k.kind, .int .i64 k.flag, .string (bs k.text), sv, kv]) ∧ Kept [rb] w w' ∧ KeyIn w.heap.size w' k sv kv ∧ nodesK k ≤ 100

theorem odd_back {rb A B lo hi : Nat} {w w1 w3 : World} {k : Ky} {sv kv : Value} (a b : Int) (c : List UInt8) (hX : KeyX lo hi w1 k sv kv) (hn : nodesK k ≤ 15) (hc : c.length ≤ bigN) (hK : Kept [rb] w w1) (hA : A < lo) (hr : rb < lo) (hB : hi ≤ B) (hwA : w.heap.size ≤ A) (hwB : w.heap.size ≤ B) (hwl : w.heap.size ≤ lo) (hK3 : Kept [rb, A, B] w1 w3) :
    OddRes rb w (.returned (.agg #[.int .i64 a, .int .i64 b, .string (bs c), sv, kv])) w3 := by
  refine ⟨.mk a b c k.set k.keys, sv, kv, rfl, hK.trans' hK3 (fun _ e _ => e) (fun z e hz => by simp at e ⊢; omega), keyIn_alter (KeyIn.low hwl k _ _ (KeyX.in_ k _ _ (KeyX.kept hK3 (by simp; omega) k _ _ hX))) a b c hc, by rw [nodes_alter]; omega⟩

set_option maxRecDepth 100000 in
set_option maxHeartbeats 8000000 in
theorem l91Odd_any (rb N : Nat) (w : World) (h : RdAt w rb N) (hN : N ≤ 980000) :
    Calls Tryz.prog 17 #[.pointer (some ⟨rb, 0, none⟩)] w (OddRes rb w) := by
  have hlt := h.lt
  have HP := hid (fun M (hM : M ≤ 2000) n W (hW : RdAt W rb (N + M)) (hn : n ≤ 1000) => pick_any rb (N + M) n W hW (by omega) (by omega))
  have HZ := hid (new_block w (Obj.cells #[.int .i64 0, .int .i64 0, .string ⟨#[]⟩, .slice none 0 0, .slice none 0 0] 26))
  have KZ := hid ((Kept.refl [rb] w).alloc (Obj.cells #[.int .i64 0, .int .i64 0, .string ⟨#[]⟩, .slice none 0 0, .slice none 0 0] 26))
  have HR := hid (h.kept ((Kept.refl [] w).alloc (Obj.cells #[.int .i64 0, .int .i64 0, .string ⟨#[]⟩, .slice none 0 0, .slice none 0 0] 26)))
  clear h
  go_enter Tryz.func17, Tryz.ntmps17
  go_wp2_with fail
  refine (l91Key_any rb N _ HR.out (by omega)).mono ?_
  rintro e w1 ⟨k, sv, kv, rfl, hK, hX, hn, hR⟩
  obtain ⟨s1, s2, s3, t1, t2, t3, rfl, rfl⟩ := hX.form
  have HX := hid hX
  have HK1 := hid (KZ.out.trans hK)
  have HZ1 := hid (hK.same HZ.out (by simp; omega))
  have HKD := hid (new_block w1 (Obj.cells #[.int .i64 k.kind, .int .i64 k.flag, .string (bs k.text), .slice s1 s2 s3, .slice t1 t2 t3] 26))
  have KD := hid ((Kept.refl [] w1).alloc (Obj.cells #[.int .i64 k.kind, .int .i64 k.flag, .string (bs k.text), .slice s1 s2 s3, .slice t1 t2 t3] 26))
  have HR1 := hid (hR.kept ((Kept.refl [] w1).alloc (Obj.cells #[.int .i64 k.kind, .int .i64 k.flag, .string (bs k.text), .slice s1 s2 s3, .slice t1 t2 t3] 26)))
  have hA1 := lt_of_block HZ1.out
  have hN15 := hn
  clear hK hX hR
  go_wp2_with fail
  refine (HP.out 1100 (by omega) 16 _ HR1.out (by omega)).mono ?_
  rintro e w2 ⟨x, rfl, x0, x1, -, hK, hR⟩
  have HZ2 := hid (hK.same (alloc_block HZ1.out _) (by simp; omega))
  have HB2 := hid (hK.same HKD.out (by simp; omega))
  have KK2 := hid (KD.out.nil.trans hK)
  have HR2 := hid hR
  have hx := x1 (by omega)
  have hs2 := KK2.out.size
  have htx : k.text.length ≤ bigN := (by have := HX.out; cases k; unfold KeyX at this; exact this.1 : k.text.length ≤ bigN)
  clear hK hR x1
  by_cases q0 : x = 0
  · subst q0
    go_wp2_with fail
    refine (HP.out 1101 (by omega) 10 _ HR2.out (by omega)).mono ?_
    rintro e w3 ⟨y, rfl, y0, y1, -, hK, hR⟩
    have HZ3 := hid (hK.same HZ2.out (by simp; omega))
    have HB3 := hid (hK.same HB2.out (by simp; omega))
    have KK3 := hid (KK2.out.trans hK)
    have hy := y1 (by omega)
    clear hK hR y1
    have hz := HZ3.out
    have z0 := cell_of_block hz 0
    have z1 := cell_of_block hz 1
    have z2 := cell_of_block hz 2
    have z3 := cell_of_block hz 3
    have z4 := cell_of_block hz 4
    simp at z0 z1 z2 z3 z4
    have f0 := frozen_of_block hz 0
    have f1 := frozen_of_block hz 1
    have f2 := frozen_of_block hz 2
    have f3 := frozen_of_block hz 3
    have f4 := frozen_of_block hz 4
    have hzl := lt_of_block hz
    have hb := HB3.out
    have b0 := cell_of_block hb 0
    have b1 := cell_of_block hb 1
    have b2 := cell_of_block hb 2
    have b3 := cell_of_block hb 3
    have b4 := cell_of_block hb 4
    simp at b0 b1 b2 b3 b4
    have g0 := frozen_of_block hb 0
    have g1 := frozen_of_block hb 1
    have g2 := frozen_of_block hb 2
    have g3 := frozen_of_block hb 3
    have g4 := frozen_of_block hb 4
    have hbl := lt_of_block hb
    clear hz hb
    go_wp2
    refine bodyPost_ret (v := .agg #[.int .i64 (y - 1), .int .i64 (k.flag), .string (bs k.text), .slice s1 s2 s3, .slice t1 t2 t3]) (by simp [results, Tryz.results17, go_sem, z0, z1, z2, z3, z4]) rfl ?_
    refine odd_back (A := w.heap.size) (B := w1.heap.size) (y - 1) (k.flag) k.text HX.out hN15 htx HK1.out (by simp) (by simp; omega) (Nat.le_refl _) (Nat.le_refl _) (by omega) (by simp) ?_
    repeat' with_reducible first | exact (KK3.out.mono (by simp)) | refine Kept.drew ?_ | refine Kept.drewN ?_ _ | refine Kept.alloc ?_ _ | refine Kept.setCell ?_ _ _ (by first | (simp; done) | (simp; omega))
  have e0 : (x == 0) = false := by rw [beq_eq_false_iff_ne]; exact q0
  by_cases q1 : x = 1
  · subst q1
    go_wp2_with fail
    refine (HP.out 1101 (by omega) 32 _ HR2.out (by omega)).mono ?_
    rintro e w3 ⟨y, rfl, y0, y1, -, hK, hR⟩
    have HZ3 := hid (hK.same HZ2.out (by simp; omega))
    have HB3 := hid (hK.same HB2.out (by simp; omega))
    have KK3 := hid (KK2.out.trans hK)
    have hy := y1 (by omega)
    clear hK hR y1
    have hz := HZ3.out
    have z0 := cell_of_block hz 0
    have z1 := cell_of_block hz 1
    have z2 := cell_of_block hz 2
    have z3 := cell_of_block hz 3
    have z4 := cell_of_block hz 4
    simp at z0 z1 z2 z3 z4
    have f0 := frozen_of_block hz 0
    have f1 := frozen_of_block hz 1
    have f2 := frozen_of_block hz 2
    have f3 := frozen_of_block hz 3
    have f4 := frozen_of_block hz 4
    have hzl := lt_of_block hz
    have hb := HB3.out
    have b0 := cell_of_block hb 0
    have b1 := cell_of_block hb 1
    have b2 := cell_of_block hb 2
    have b3 := cell_of_block hb 3
    have b4 := cell_of_block hb 4
    simp at b0 b1 b2 b3 b4
    have g0 := frozen_of_block hb 0
    have g1 := frozen_of_block hb 1
    have g2 := frozen_of_block hb 2
    have g3 := frozen_of_block hb 3
    have g4 := frozen_of_block hb 4
    have hbl := lt_of_block hb
    clear hz hb
    go_wp2
    refine bodyPost_ret (v := .agg #[.int .i64 (k.kind), .int .i64 (y), .string (bs k.text), .slice s1 s2 s3, .slice t1 t2 t3]) (by simp [results, Tryz.results17, go_sem, z0, z1, z2, z3, z4]) rfl ?_
    refine odd_back (A := w.heap.size) (B := w1.heap.size) (k.kind) (y) k.text HX.out hN15 htx HK1.out (by simp) (by simp; omega) (Nat.le_refl _) (Nat.le_refl _) (by omega) (by simp) ?_
    repeat' with_reducible first | exact (KK3.out.mono (by simp)) | refine Kept.drew ?_ | refine Kept.drewN ?_ _ | refine Kept.alloc ?_ _ | refine Kept.setCell ?_ _ _ (by first | (simp; done) | (simp; omega))
  have e1 : (x == 1) = false := by rw [beq_eq_false_iff_ne]; exact q1
  by_cases q2 : x = 2
  · subst q2
    have hz := HZ2.out
    have z0 := cell_of_block hz 0
    have z1 := cell_of_block hz 1
    have z2 := cell_of_block hz 2
    have z3 := cell_of_block hz 3
    have z4 := cell_of_block hz 4
    simp at z0 z1 z2 z3 z4
    have f0 := frozen_of_block hz 0
    have f1 := frozen_of_block hz 1
    have f2 := frozen_of_block hz 2
    have f3 := frozen_of_block hz 3
    have f4 := frozen_of_block hz 4
    have hzl := lt_of_block hz
    have hb := HB2.out
    have b0 := cell_of_block hb 0
    have b1 := cell_of_block hb 1
    have b2 := cell_of_block hb 2
    have b3 := cell_of_block hb 3
    have b4 := cell_of_block hb 4
    simp at b0 b1 b2 b3 b4
    have g0 := frozen_of_block hb 0
    have g1 := frozen_of_block hb 1
    have g2 := frozen_of_block hb 2
    have g3 := frozen_of_block hb 3
    have g4 := frozen_of_block hb 4
    have hbl := lt_of_block hb
    clear hz hb
    go_wp2
    refine bodyPost_ret (v := .agg #[.int .i64 (k.kind), .int .i64 (k.flag), .string (⟨#[98, 111, 98]⟩), .slice s1 s2 s3, .slice t1 t2 t3]) (by simp [results, Tryz.results17, go_sem, z0, z1, z2, z3, z4]) rfl ?_
    refine odd_back (A := w.heap.size) (B := w1.heap.size) (k.kind) (k.flag) [98, 111, 98] HX.out hN15 (by unfold bigN; decide) HK1.out (by simp) (by simp; omega) (Nat.le_refl _) (Nat.le_refl _) (by omega) (by simp) ?_
    repeat' with_reducible first | exact (KK2.out.mono (by simp)) | refine Kept.drew ?_ | refine Kept.drewN ?_ _ | refine Kept.alloc ?_ _ | refine Kept.setCell ?_ _ _ (by first | (simp; done) | (simp; omega))
  have e2 : (x == 2) = false := by rw [beq_eq_false_iff_ne]; exact q2
  by_cases q3 : x = 3
  · subst q3
    obtain ⟨-, hsp, -, a0, cp0, bk, hkv, hcp, hl2, hbb, hks⟩ := keyX_parts.1 HX.out
    injection hkv with e1 e2 e3
    subst e1 e2 e3
    have HSP := hid hsp
    obtain ⟨kd, fl, tx, st, ks⟩ := k
    simp only [Ky.kind, Ky.flag, Ky.text, Ky.set, Ky.keys] at *
    match ks with
    | [] =>
      have hz := HZ2.out
      have z0 := cell_of_block hz 0
      have z1 := cell_of_block hz 1
      have z2 := cell_of_block hz 2
      have z3 := cell_of_block hz 3
      have z4 := cell_of_block hz 4
      simp at z0 z1 z2 z3 z4
      have f0 := frozen_of_block hz 0
      have f1 := frozen_of_block hz 1
      have f2 := frozen_of_block hz 2
      have f3 := frozen_of_block hz 3
      have f4 := frozen_of_block hz 4
      have hzl := lt_of_block hz
      have hb := HB2.out
      have b0 := cell_of_block hb 0
      have b1 := cell_of_block hb 1
      have b2 := cell_of_block hb 2
      have b3 := cell_of_block hb 3
      have b4 := cell_of_block hb 4
      simp at b0 b1 b2 b3 b4
      have g0 := frozen_of_block hb 0
      have g1 := frozen_of_block hb 1
      have g2 := frozen_of_block hb 2
      have g3 := frozen_of_block hb 3
      have g4 := frozen_of_block hb 4
      have hbl := lt_of_block hb
      clear hz hb
      have HO3 := hid (World.ownsRow_made w2 #[] 0 (e := 26) (size := 5) (base := w2.heap.size) (Nat.le_refl _) (Nat.zero_le _) rfl)
      have hg3 : w2.heap.size ≤ w2.heap.size := Nat.le_refl _
      have HZ3 := hid (alloc_block HZ2.out (Obj.cells #[] 26))
      have HB3 := hid (alloc_block HB2.out (Obj.cells #[] 26))
      have KK3 := hid (KK2.out.alloc (Obj.cells #[] 26))
      rcases t1 with _ | t1
      all_goals
        go_wp2_with (at_builtin; refine append_where 24 26 _ 5 80 Tryz.underlying24 inf_key rfl (by decide) (by decide) rfl (.tmp 27) (.tmp 29) rfl w2.heap.size (.slice (some ⟨w2.heap.size, 0, none⟩) 0 0) 0 [] rfl (HO3.out.alloc _) (w2.heap.size + 1) 1 1 (kcs kyNone (.slice none 0 0) (.slice none 0 0)) rfl #[.int .i64 0, .int .i64 0, .string ⟨#[]⟩, .slice none 0 0, .slice none 0 0] (0, 0) (new_block2 _ _ _) rfl rfl (by simp [kcs, Value.oneCell']) (by unfold bigN; omega) (by omega) (by have := KK3.out.size; first | (simp; done) | (simp; omega) | (simp at this ⊢; omega)) ?_; intro g4 cap4 w4 hown4 hgrow4 hwh4 hgl4; have HO4 := hid hown4; have hg4 : w2.heap.size ≤ g4 := (hown4.lt g4 rfl).1; have HZ4 := hid ((hgrow4.block w.heap.size (by have := KK3.out.size; simp at this ⊢; omega) (fun e => by have e : some w.heap.size = some w2.heap.size := e; injection e with e; omega)).trans (alloc_block HZ3.out _)); have HB4 := hid ((hgrow4.block w1.heap.size (by have := KK3.out.size; simp at this ⊢; omega) (fun e => by have e : some w1.heap.size = some w2.heap.size := e; injection e with e; omega)).trans (alloc_block HB3.out _)); have KK4 := hid ((KK3.out.alloc (Obj.cells #[.int .i64 0, .int .i64 0, .string ⟨#[]⟩, .slice none 0 0, .slice none 0 0] 26)).grown hgrow4 (by intro q e hq; have e : some w2.heap.size = some q := e; injection e with e; omega)); have z0 := cell_of_block HZ4.out 0; have z1 := cell_of_block HZ4.out 1; have z2 := cell_of_block HZ4.out 2; have z3 := cell_of_block HZ4.out 3; have z4 := cell_of_block HZ4.out 4; have f0 := frozen_of_block HZ4.out 0; have f1 := frozen_of_block HZ4.out 1; have f2 := frozen_of_block HZ4.out 2; have f3 := frozen_of_block HZ4.out 3; have f4 := frozen_of_block HZ4.out 4; have b0 := cell_of_block HB4.out 0; have b1 := cell_of_block HB4.out 1; have b2 := cell_of_block HB4.out 2; have b3 := cell_of_block HB4.out 3; have b4 := cell_of_block HB4.out 4; have g4f := frozen_of_block HB4.out 4; simp at z0 z1 z2 z3 z4 b0 b1 b2 b3 b4; have hzl4 := lt_of_block HZ4.out; have hbl4 := lt_of_block HB4.out; clear hown4 hgrow4)
        refine bodyPost_ret (v := .agg #[.int .i64 kd, .int .i64 fl, .string (bs tx), .slice s1 s2 s3, .slice (some ⟨g4, 0, none⟩) 1 cap4]) (by simp [results, Tryz.results17, go_sem, z0, z1, z2, z3, z4]) rfl ?_
        refine gen_world (fun W => Kept [w.heap.size, w1.heap.size] w4 W) ?_ ?_
        · repeat' with_reducible first | exact Kept.refl _ _ | refine Kept.drew ?_ | refine Kept.drewN ?_ _ | refine Kept.alloc ?_ _ | refine Kept.setCell ?_ _ _ (by first | (simp; done) | (simp; omega))
        intro W' KW
        have hfin : Kept [rb, w.heap.size, w1.heap.size] w1 W' := (KK4.out.mono (cs := [rb, w.heap.size, w1.heap.size]) (by first | (simp; done) | (simp; omega))).trans' KW (fun _ e _ => e) (fun x e _ => by simp at e ⊢; first | done | omega | (rcases e with e | e <;> simp [e]))
        have hO := own_kept2 HO4.out KW (by simp; omega)
        have hcap := own_capG hO
        have c : ∀ j, j < 5 → W'.cell? ⟨g4, 0 + j, none⟩ = (([] : List Value) ++ kcs kyNone (.slice none 0 0) (.slice none 0 0))[j]? := fun j hj => by rw [Nat.zero_add]; exact own_cell hO (by omega) j (by omega)
        have hg4l := (hO.lt g4 rfl).2
        refine ⟨.mk kd fl tx st [kyNone], _, _, rfl, (HK1.out.trans KK4.out).trans' KW (fun _ e _ => e) (fun x e hx => by simp at e; omega), ?_, by simp only [nodesK, nodesL, kyNone] at hn ⊢; omega⟩
        unfold KeyIn
        refine ⟨htx, ((HSP.out.kept hfin (by simp; omega)).at_).low (by simp), _, cap4, g4, 0, rfl, by first | (simp; done) | (simp; unfold bigN; omega) | (unfold bigN; simp), by simpa using hcap, fun _ => ⟨rfl, by omega, hg4l⟩, ?_⟩
        unfold KeysIn KeysIn
        exact ⟨⟨.slice none 0 0, .slice none 0 0, c 0 (by omega), c 1 (by omega), c 2 (by omega), c 3 (by omega), c 4 (by omega), by unfold kyNone KeyIn KeysIn; exact ⟨Nat.zero_le _, SpansAt.nil _ _, none, 0, 0, 0, rfl, Nat.zero_le _, Nat.zero_le _, fun h => absurd h (by simp), trivial⟩⟩, trivial⟩
    | [k1] =>
      obtain ⟨rfl, hb1, hb2, hb3, C, hC⟩ := hbb (by simp)
      unfold KeysX KeysX at hks
      obtain ⟨x1, y1, hx1, hxy1, hy1, hbx1, ⟨sv1, kv1, c10, c11, c12, c13, c14, hk1⟩, -⟩ := hks
      have HKX1 := hid hk1
      rw [cell_of_block hC] at c10 c11 c12 c13 c14
      have hb1' : w.heap.size + 1 ≤ bk := by simpa using hb1
      have hC2 := KK2.out.same hC (by simp; omega)
      have hnews : C.toList.take (1 * 5) = kcs k1 sv1 kv1 := take_cells1 c10 c11 c12 c13 c14
      obtain ⟨q11, q12, q13, r11, r12, r13, rfl, rfl⟩ := hk1.form
      clear hC hbb c10 c11 c12 c13 c14 hk1
      have hz := HZ2.out
      have z0 := cell_of_block hz 0
      have z1 := cell_of_block hz 1
      have z2 := cell_of_block hz 2
      have z3 := cell_of_block hz 3
      have z4 := cell_of_block hz 4
      simp at z0 z1 z2 z3 z4
      have f0 := frozen_of_block hz 0
      have f1 := frozen_of_block hz 1
      have f2 := frozen_of_block hz 2
      have f3 := frozen_of_block hz 3
      have f4 := frozen_of_block hz 4
      have hzl := lt_of_block hz
      have hb := HB2.out
      have b0 := cell_of_block hb 0
      have b1 := cell_of_block hb 1
      have b2 := cell_of_block hb 2
      have b3 := cell_of_block hb 3
      have b4 := cell_of_block hb 4
      simp at b0 b1 b2 b3 b4
      have g0 := frozen_of_block hb 0
      have g1 := frozen_of_block hb 1
      have g2 := frozen_of_block hb 2
      have g3 := frozen_of_block hb 3
      have g4 := frozen_of_block hb 4
      have hbl := lt_of_block hb
      clear hz hb
      go_wp2_with (first
        | (at_builtin; refine append_where 24 26 _ 5 80 Tryz.underlying24 inf_key rfl (by decide) (by decide) rfl (.tmp 24) (.tmp 26) rfl w2.heap.size (.slice (some ⟨w2.heap.size, 0, none⟩) 0 0) 0 [] rfl (World.ownsRow_made w2 #[] 0 (e := 26) (size := 5) (base := w2.heap.size) (Nat.le_refl _) (Nat.zero_le _) rfl) bk 1 t3 (kcs k1 (.slice q11 q12 q13) (.slice r11 r12 r13)) rfl C (0, 0) (alloc_block hC2 _) hnews rfl (by simp [kcs, Value.oneCell']) (by unfold bigN; omega) (by omega) (by simp) ?_; intro g3 cap3 w3 hown3 hgrow3 hwh3 hgl3; have HO3 := hid hown3; have hg3 : w2.heap.size ≤ g3 := (hown3.lt g3 rfl).1; have HZ3 := hid ((hgrow3.block w.heap.size (by simp; omega) (fun e => by have e : some w.heap.size = some w2.heap.size := e; injection e with e; omega)).trans (alloc_block HZ2.out _)); have HB3 := hid ((hgrow3.block w1.heap.size (by simp; omega) (fun e => by have e : some w1.heap.size = some w2.heap.size := e; injection e with e; omega)).trans (alloc_block HB2.out _)); have KK3 := hid (((KK2.out.alloc (Obj.cells #[] 26)).grown hgrow3 (by intro q e hq; have e : some w2.heap.size = some q := e; injection e with e; omega))); clear hown3 hgrow3 z0 z1 z2 z3 z4 f0 f1 f2 f3 f4 hzl b0 b1 b2 b3 b4)
        | (at_builtin; refine append_where 24 26 _ 5 80 Tryz.underlying24 inf_key rfl (by decide) (by decide) rfl (.tmp 27) (.tmp 29) rfl w2.heap.size (.slice (some ⟨g3, 0, none⟩) 1 cap3) 1 (kcs k1 (.slice q11 q12 q13) (.slice r11 r12 r13)) rfl (HO3.out.alloc _) w3.heap.size 1 1 (kcs kyNone (.slice none 0 0) (.slice none 0 0)) rfl #[.int .i64 0, .int .i64 0, .string ⟨#[]⟩, .slice none 0 0, .slice none 0 0] (0, 0) (new_block w3 _) rfl rfl (by simp [kcs, Value.oneCell']) (by unfold bigN; omega) (by omega) (by have := KK3.out.size; first | (simp; done) | (simp; omega) | (simp at this ⊢; omega)) ?_; intro g4 cap4 w4 hown4 hgrow4 hwh4 hgl4; have HO4 := hid hown4; have hg4 : w2.heap.size ≤ g4 := (hown4.lt g4 rfl).1; have HZ4 := hid ((hgrow4.block w.heap.size (by have := KK3.out.size; simp at this ⊢; omega) (fun e => by have e : some w.heap.size = some g3 := e; injection e with e; omega)).trans (alloc_block HZ3.out _)); have HB4 := hid ((hgrow4.block w1.heap.size (by have := KK3.out.size; simp at this ⊢; omega) (fun e => by have e : some w1.heap.size = some g3 := e; injection e with e; omega)).trans (alloc_block HB3.out _)); have KK4 := hid ((KK3.out.alloc (Obj.cells #[.int .i64 0, .int .i64 0, .string ⟨#[]⟩, .slice none 0 0, .slice none 0 0] 26)).grown hgrow4 (by intro q e hq; have e : some g3 = some q := e; injection e with e; omega)); have z0 := cell_of_block HZ4.out 0; have z1 := cell_of_block HZ4.out 1; have z2 := cell_of_block HZ4.out 2; have z3 := cell_of_block HZ4.out 3; have z4 := cell_of_block HZ4.out 4; have f0 := frozen_of_block HZ4.out 0; have f1 := frozen_of_block HZ4.out 1; have f2 := frozen_of_block HZ4.out 2; have f3 := frozen_of_block HZ4.out 3; have f4 := frozen_of_block HZ4.out 4; have b0 := cell_of_block HB4.out 0; have b1 := cell_of_block HB4.out 1; have b2 := cell_of_block HB4.out 2; have b3 := cell_of_block HB4.out 3; have b4 := cell_of_block HB4.out 4; have g4f := frozen_of_block HB4.out 4; simp at z0 z1 z2 z3 z4 b0 b1 b2 b3 b4; have hzl4 := lt_of_block HZ4.out; have hbl4 := lt_of_block HB4.out; clear hown4 hgrow4))
      refine bodyPost_ret (v := .agg #[.int .i64 kd, .int .i64 fl, .string (bs tx), .slice s1 s2 s3, .slice (some ⟨g4, 0, none⟩) 2 cap4]) (by simp [results, Tryz.results17, go_sem, z0, z1, z2, z3, z4]) rfl ?_
      refine gen_world (fun W => Kept [w.heap.size, w1.heap.size] w4 W) ?_ ?_
      · repeat' with_reducible first | exact Kept.refl _ _ | refine Kept.drew ?_ | refine Kept.drewN ?_ _ | refine Kept.alloc ?_ _ | refine Kept.setCell ?_ _ _ (by first | (simp; done) | (simp; omega))
      intro W' KW
      have hfin : Kept [rb, w.heap.size, w1.heap.size] w1 W' := (KK4.out.mono (cs := [rb, w.heap.size, w1.heap.size]) (by first | (simp; done) | (simp; omega))).trans' KW (fun _ e _ => e) (fun x e _ => by simp at e ⊢; first | done | omega | (rcases e with e | e <;> simp [e]))
      have hO := own_kept2 HO4.out KW (by simp; omega)
      have hcap := own_capG hO
      have c : ∀ j, j < 10 → W'.cell? ⟨g4, 0 + j, none⟩ = ((kcs k1 (.slice q11 q12 q13) (.slice r11 r12 r13)) ++ kcs kyNone (.slice none 0 0) (.slice none 0 0))[j]? := fun j hj => by rw [Nat.zero_add]; exact own_cell hO (by omega) j (by omega)
      have hg4l := (hO.lt g4 rfl).2
      refine ⟨.mk kd fl tx st [k1, kyNone], _, _, rfl, (HK1.out.trans KK4.out).trans' KW (fun _ e _ => e) (fun x e hx => by simp at e; omega), ?_, by simp only [nodesK, nodesL, kyNone] at hn ⊢; omega⟩
      unfold KeyIn
      refine ⟨htx, ((HSP.out.kept hfin (by simp; omega)).at_).low (by simp), _, cap4, g4, 0, rfl, by first | (simp; done) | (simp; unfold bigN; omega) | (unfold bigN; simp), by simpa using hcap, fun _ => ⟨rfl, by omega, hg4l⟩, ?_⟩
      unfold KeysIn KeysIn KeysIn
      exact ⟨⟨.slice q11 q12 q13, .slice r11 r12 r13, c 0 (by omega), c 1 (by omega), c 2 (by omega), c 3 (by omega), c 4 (by omega), KeyIn.low (by simp at hx1; omega) _ _ _ (KeyX.in_ _ _ _ (KeyX.kept hfin (by simp; simp at hx1; omega) _ _ _ HKX1.out))⟩, ⟨.slice none 0 0, .slice none 0 0, c 5 (by omega), c 6 (by omega), c 7 (by omega), c 8 (by omega), c 9 (by omega), by unfold kyNone KeyIn KeysIn; exact ⟨Nat.zero_le _, SpansAt.nil _ _, none, 0, 0, 0, rfl, Nat.zero_le _, Nat.zero_le _, fun h => absurd h (by simp), trivial⟩⟩, trivial⟩
    | [k1, k2] =>
      obtain ⟨rfl, hb1, hb2, hb3, C, hC⟩ := hbb (by simp)
      unfold KeysX KeysX KeysX at hks
      obtain ⟨x1, y1, hx1, hxy1, hy1, hbx1, ⟨sv1, kv1, c10, c11, c12, c13, c14, hk1⟩, x2, y2, hx2, hxy2, hy2, hbx2, ⟨sv2, kv2, c20, c21, c22, c23, c24, hk2⟩, -⟩ := hks
      have HKX1 := hid hk1
      have HKX2 := hid hk2
      rw [cell_of_block hC] at c10 c11 c12 c13 c14 c20 c21 c22 c23 c24
      have hb1' : w.heap.size + 1 ≤ bk := by simpa using hb1
      have hC2 := KK2.out.same hC (by simp; omega)
      have hnews : C.toList.take (2 * 5) = kcs k1 sv1 kv1 ++ kcs k2 sv2 kv2 := take_cells2 c10 c11 c12 c13 c14 c20 c21 c22 c23 c24
      obtain ⟨q11, q12, q13, r11, r12, r13, rfl, rfl⟩ := hk1.form
      obtain ⟨q21, q22, q23, r21, r22, r23, rfl, rfl⟩ := hk2.form
      clear hC hbb c10 c11 c12 c13 c14 c20 c21 c22 c23 c24 hk1 hk2
      have hz := HZ2.out
      have z0 := cell_of_block hz 0
      have z1 := cell_of_block hz 1
      have z2 := cell_of_block hz 2
      have z3 := cell_of_block hz 3
      have z4 := cell_of_block hz 4
      simp at z0 z1 z2 z3 z4
      have f0 := frozen_of_block hz 0
      have f1 := frozen_of_block hz 1
      have f2 := frozen_of_block hz 2
      have f3 := frozen_of_block hz 3
      have f4 := frozen_of_block hz 4
      have hzl := lt_of_block hz
      have hb := HB2.out
      have b0 := cell_of_block hb 0
      have b1 := cell_of_block hb 1
      have b2 := cell_of_block hb 2
      have b3 := cell_of_block hb 3
      have b4 := cell_of_block hb 4
      simp at b0 b1 b2 b3 b4
      have g0 := frozen_of_block hb 0
      have g1 := frozen_of_block hb 1
      have g2 := frozen_of_block hb 2
      have g3 := frozen_of_block hb 3
      have g4 := frozen_of_block hb 4
      have hbl := lt_of_block hb
      clear hz hb
      go_wp2_with (first
        | (at_builtin; refine append_where 24 26 _ 5 80 Tryz.underlying24 inf_key rfl (by decide) (by decide) rfl (.tmp 24) (.tmp 26) rfl w2.heap.size (.slice (some ⟨w2.heap.size, 0, none⟩) 0 0) 0 [] rfl (World.ownsRow_made w2 #[] 0 (e := 26) (size := 5) (base := w2.heap.size) (Nat.le_refl _) (Nat.zero_le _) rfl) bk 2 t3 (kcs k1 (.slice q11 q12 q13) (.slice r11 r12 r13) ++ kcs k2 (.slice q21 q22 q23) (.slice r21 r22 r23)) rfl C (0, 0) (alloc_block hC2 _) hnews rfl (by simp [kcs, Value.oneCell']) (by unfold bigN; omega) (by omega) (by simp) ?_; intro g3 cap3 w3 hown3 hgrow3 hwh3 hgl3; have HO3 := hid hown3; have hg3 : w2.heap.size ≤ g3 := (hown3.lt g3 rfl).1; have HZ3 := hid ((hgrow3.block w.heap.size (by simp; omega) (fun e => by have e : some w.heap.size = some w2.heap.size := e; injection e with e; omega)).trans (alloc_block HZ2.out _)); have HB3 := hid ((hgrow3.block w1.heap.size (by simp; omega) (fun e => by have e : some w1.heap.size = some w2.heap.size := e; injection e with e; omega)).trans (alloc_block HB2.out _)); have KK3 := hid (((KK2.out.alloc (Obj.cells #[] 26)).grown hgrow3 (by intro q e hq; have e : some w2.heap.size = some q := e; injection e with e; omega))); clear hown3 hgrow3 z0 z1 z2 z3 z4 f0 f1 f2 f3 f4 hzl b0 b1 b2 b3 b4)
        | (at_builtin; refine append_where 24 26 _ 5 80 Tryz.underlying24 inf_key rfl (by decide) (by decide) rfl (.tmp 27) (.tmp 29) rfl w2.heap.size (.slice (some ⟨g3, 0, none⟩) 2 cap3) 2 (kcs k1 (.slice q11 q12 q13) (.slice r11 r12 r13) ++ kcs k2 (.slice q21 q22 q23) (.slice r21 r22 r23)) rfl (HO3.out.alloc _) w3.heap.size 1 1 (kcs kyNone (.slice none 0 0) (.slice none 0 0)) rfl #[.int .i64 0, .int .i64 0, .string ⟨#[]⟩, .slice none 0 0, .slice none 0 0] (0, 0) (new_block w3 _) rfl rfl (by simp [kcs, Value.oneCell']) (by unfold bigN; omega) (by omega) (by have := KK3.out.size; first | (simp; done) | (simp; omega) | (simp at this ⊢; omega)) ?_; intro g4 cap4 w4 hown4 hgrow4 hwh4 hgl4; have HO4 := hid hown4; have hg4 : w2.heap.size ≤ g4 := (hown4.lt g4 rfl).1; have HZ4 := hid ((hgrow4.block w.heap.size (by have := KK3.out.size; simp at this ⊢; omega) (fun e => by have e : some w.heap.size = some g3 := e; injection e with e; omega)).trans (alloc_block HZ3.out _)); have HB4 := hid ((hgrow4.block w1.heap.size (by have := KK3.out.size; simp at this ⊢; omega) (fun e => by have e : some w1.heap.size = some g3 := e; injection e with e; omega)).trans (alloc_block HB3.out _)); have KK4 := hid ((KK3.out.alloc (Obj.cells #[.int .i64 0, .int .i64 0, .string ⟨#[]⟩, .slice none 0 0, .slice none 0 0] 26)).grown hgrow4 (by intro q e hq; have e : some g3 = some q := e; injection e with e; omega)); have z0 := cell_of_block HZ4.out 0; have z1 := cell_of_block HZ4.out 1; have z2 := cell_of_block HZ4.out 2; have z3 := cell_of_block HZ4.out 3; have z4 := cell_of_block HZ4.out 4; have f0 := frozen_of_block HZ4.out 0; have f1 := frozen_of_block HZ4.out 1; have f2 := frozen_of_block HZ4.out 2; have f3 := frozen_of_block HZ4.out 3; have f4 := frozen_of_block HZ4.out 4; have b0 := cell_of_block HB4.out 0; have b1 := cell_of_block HB4.out 1; have b2 := cell_of_block HB4.out 2; have b3 := cell_of_block HB4.out 3; have b4 := cell_of_block HB4.out 4; have g4f := frozen_of_block HB4.out 4; simp at z0 z1 z2 z3 z4 b0 b1 b2 b3 b4; have hzl4 := lt_of_block HZ4.out; have hbl4 := lt_of_block HB4.out; clear hown4 hgrow4))
      refine bodyPost_ret (v := .agg #[.int .i64 kd, .int .i64 fl, .string (bs tx), .slice s1 s2 s3, .slice (some ⟨g4, 0, none⟩) 3 cap4]) (by simp [results, Tryz.results17, go_sem, z0, z1, z2, z3, z4]) rfl ?_
      refine gen_world (fun W => Kept [w.heap.size, w1.heap.size] w4 W) ?_ ?_
      · repeat' with_reducible first | exact Kept.refl _ _ | refine Kept.drew ?_ | refine Kept.drewN ?_ _ | refine Kept.alloc ?_ _ | refine Kept.setCell ?_ _ _ (by first | (simp; done) | (simp; omega))
      intro W' KW
      have hfin : Kept [rb, w.heap.size, w1.heap.size] w1 W' := (KK4.out.mono (cs := [rb, w.heap.size, w1.heap.size]) (by first | (simp; done) | (simp; omega))).trans' KW (fun _ e _ => e) (fun x e _ => by simp at e ⊢; first | done | omega | (rcases e with e | e <;> simp [e]))
      have hO := own_kept2 HO4.out KW (by simp; omega)
      have hcap := own_capG hO
      have c : ∀ j, j < 15 → W'.cell? ⟨g4, 0 + j, none⟩ = ((kcs k1 (.slice q11 q12 q13) (.slice r11 r12 r13) ++ kcs k2 (.slice q21 q22 q23) (.slice r21 r22 r23)) ++ kcs kyNone (.slice none 0 0) (.slice none 0 0))[j]? := fun j hj => by rw [Nat.zero_add]; exact own_cell hO (by omega) j (by omega)
      have hg4l := (hO.lt g4 rfl).2
      refine ⟨.mk kd fl tx st [k1, k2, kyNone], _, _, rfl, (HK1.out.trans KK4.out).trans' KW (fun _ e _ => e) (fun x e hx => by simp at e; omega), ?_, by simp only [nodesK, nodesL, kyNone] at hn ⊢; omega⟩
      unfold KeyIn
      refine ⟨htx, ((HSP.out.kept hfin (by simp; omega)).at_).low (by simp), _, cap4, g4, 0, rfl, by first | (simp; done) | (simp; unfold bigN; omega) | (unfold bigN; simp), by simpa using hcap, fun _ => ⟨rfl, by omega, hg4l⟩, ?_⟩
      unfold KeysIn KeysIn KeysIn KeysIn
      exact ⟨⟨.slice q11 q12 q13, .slice r11 r12 r13, c 0 (by omega), c 1 (by omega), c 2 (by omega), c 3 (by omega), c 4 (by omega), KeyIn.low (by simp at hx1; omega) _ _ _ (KeyX.in_ _ _ _ (KeyX.kept hfin (by simp; simp at hx1; omega) _ _ _ HKX1.out))⟩, ⟨.slice q21 q22 q23, .slice r21 r22 r23, c 5 (by omega), c 6 (by omega), c 7 (by omega), c 8 (by omega), c 9 (by omega), KeyIn.low (by simp at hx1; omega) _ _ _ (KeyX.in_ _ _ _ (KeyX.kept hfin (by simp; simp at hx1; omega) _ _ _ HKX2.out))⟩, ⟨.slice none 0 0, .slice none 0 0, c 10 (by omega), c 11 (by omega), c 12 (by omega), c 13 (by omega), c 14 (by omega), by unfold kyNone KeyIn KeysIn; exact ⟨Nat.zero_le _, SpansAt.nil _ _, none, 0, 0, 0, rfl, Nat.zero_le _, Nat.zero_le _, fun h => absurd h (by simp), trivial⟩⟩, trivial⟩
    | _ :: _ :: _ :: _ => simp at hl2
  have e3 : (x == 3) = false := by rw [beq_eq_false_iff_ne]; exact q3
  have hz := HZ2.out
  have z0 := cell_of_block hz 0
  have z1 := cell_of_block hz 1
  have z2 := cell_of_block hz 2
  have z3 := cell_of_block hz 3
  have z4 := cell_of_block hz 4
  simp at z0 z1 z2 z3 z4
  have f0 := frozen_of_block hz 0
  have f1 := frozen_of_block hz 1
  have f2 := frozen_of_block hz 2
  have f3 := frozen_of_block hz 3
  have f4 := frozen_of_block hz 4
  have hzl := lt_of_block hz
  have hb := HB2.out
  have b0 := cell_of_block hb 0
  have b1 := cell_of_block hb 1
  have b2 := cell_of_block hb 2
  have b3 := cell_of_block hb 3
  have b4 := cell_of_block hb 4
  simp at b0 b1 b2 b3 b4
  have g0 := frozen_of_block hb 0
  have g1 := frozen_of_block hb 1
  have g2 := frozen_of_block hb 2
  have g3 := frozen_of_block hb 3
  have g4 := frozen_of_block hb 4
  have hbl := lt_of_block hb
  clear hz hb
  go_wp2
  refine bodyPost_ret (v := .agg #[.int .i64 (k.kind), .int .i64 (k.flag), .string (bs k.text), .slice s1 s2 s3, .slice t1 t2 t3]) (by simp [results, Tryz.results17, go_sem, z0, z1, z2, z3, z4]) rfl ?_
  refine odd_back (A := w.heap.size) (B := w1.heap.size) (k.kind) (k.flag) k.text HX.out hN15 htx HK1.out (by simp) (by simp; omega) (Nat.le_refl _) (Nat.le_refl _) (by omega) (by simp) ?_
  repeat' with_reducible first | exact (KK2.out.mono (by simp)) | refine Kept.drew ?_ | refine Kept.drewN ?_ _ | refine Kept.alloc ?_ _ | refine Kept.setCell ?_ _ _ (by first | (simp; done) | (simp; omega))

set_option maxRecDepth 100000 in
set_option maxHeartbeats 4000000 in
theorem drawKeyFormat_any (v : Value) (w : World) (h : CodeAt w v) :
    Calls Tryz.prog 7 #[v] w fun e w' => ∃ (k : Ky) (sv kv : Value), e = .returned (.agg #[.int .i64 k.kind, .int .i64 k.flag, .string (bs k.text), sv, kv]) ∧ Kept [] w w' ∧ KeyIn 0 w' k sv kv ∧ nodesK k ≤ 100 := by
  have HZ := hid (new_block w (Obj.cells #[.int .i64 0, .int .i64 0, .string ⟨#[]⟩, .slice none 0 0, .slice none 0 0] 26))
  have KZ := hid ((Kept.refl [] w).alloc (Obj.cells #[.int .i64 0, .int .i64 0, .string ⟨#[]⟩, .slice none 0 0, .slice none 0 0] 26))
  have HO := hid (fun W (hW : Kept [] w W) => l6Open_any v W (h.kept hW))
  clear h
  go_enter Tryz.func7, Tryz.ntmps7
  go_wp2_with fail
  refine (HO.out _ KZ.out).mono ?_
  rintro e w1 ⟨rfl, hK, hR⟩
  have HZ1 := hid (hK.same HZ.out (by simp))
  have HK1 := hid (KZ.out.trans hK)
  obtain ⟨rb, hrb⟩ : ∃ rb, (w.alloc (Obj.cells #[.int .i64 0, .int .i64 0, .string ⟨#[]⟩, .slice none 0 0, .slice none 0 0] 26)).heap.size = rb := ⟨_, rfl⟩
  have hrb1 : w.heap.size < rb := by rw [← hrb]; simp
  rw [hrb] at hR
  have HR := hid hR
  clear hK hR
  have hrb2 : w.heap.size + 1 = rb := by rw [← hrb]; simp
  go_wp2_with fail
  refine (l91Odd_any rb 0 _ HR.out (by omega)).mono ?_
  rintro e w2 ⟨k, sv, kv, rfl, hK, hI, hn⟩
  obtain ⟨hcl, hsp, a4, cap, b4, off, hkv, -⟩ := hI.parts
  obtain ⟨sa, scap, hsv⟩ := hsp.form
  subst hkv hsv
  have hz := hK.same HZ1.out (by simp; omega)
  have z0 := cell_of_block hz 0
  have z1 := cell_of_block hz 1
  have z2 := cell_of_block hz 2
  have z3 := cell_of_block hz 3
  have z4 := cell_of_block hz 4
  have f0 := frozen_of_block hz 0
  have f1 := frozen_of_block hz 1
  have f2 := frozen_of_block hz 2
  have f3 := frozen_of_block hz 3
  have f4 := frozen_of_block hz 4
  have hzl := lt_of_block hz
  simp at z0 z1 z2 z3 z4
  have HK2 := hid (HK1.out.trans' hK (ds := []) (by simp) (fun x e hx => by simp at e; omega))
  have HI := hid hI
  clear hz hK hI hsp hcl
  go_wp2
  refine bodyPost_ret (v := .agg #[.int .i64 k.kind, .int .i64 k.flag, .string (bs k.text), .slice sa k.set.length scap, .slice a4 k.keys.length cap]) (by simp [results, Tryz.results7, go_sem, z0, z1, z2, z3, z4]) rfl ?_
  refine ⟨k, _, _, rfl, ?_, KeyIn.low (Nat.zero_le _) k _ _ (KeyIn.kept (bs := [w.heap.size]) ?_ ?_ k _ _ HI.out), hn⟩
  · repeat' with_reducible first | exact HK2.out | refine Kept.setCell ?_ _ _ (by first | (simp; done) | (simp; omega))
  · repeat' with_reducible first | exact Kept.refl _ _ | refine Kept.setCell ?_ _ _ (by simp)
  · have := HK1.out.size; have := lt_of_block HZ1.out; simp; omega

set_option maxRecDepth 100000 in
set_option maxHeartbeats 4000000 in
theorem drawKeyParse_any (v : Value) (w : World) (h : CodeAt w v) :
    Calls Tryz.prog 12 #[v] w fun e w' => ∃ l : List UInt8, e = .returned (.string (bs l)) ∧ l.length ≤ 1000 ∧ Kept [] w w' := by
  go_enter Tryz.func12, Tryz.ntmps12
  go_wp2_with fail
  refine (l6Open_any v w h).mono ?_
  rintro e w1 ⟨rfl, hK, hR⟩
  obtain ⟨rb, hrb⟩ : ∃ rb, w.heap.size = rb := ⟨_, rfl⟩
  rw [hrb] at hR
  have HR := hid hR
  have HK1 := hid hK
  have hrw := hR.lt
  clear hK hR h
  go_wp2_with fail
  refine (l91Key_any rb 0 _ HR.out (by omega)).mono ?_
  rintro e w2 ⟨k, sv, kv, rfl, hK, hX, hn, hR⟩
  have HI := hid (KeyIn.low (Nat.zero_le _) k _ _ (KeyX.in_ k _ _ hX))
  have HR2 := hid hR
  have HK2 := hid (HK1.out.trans' hK (ds := []) (by simp) (fun x e hx => by simp at e; omega))
  clear hK hX hR
  go_wp2_with fail
  refine (sKeyFormat_any 0 k sv kv _ (by unfold bigN; omega) HI.out).mono ?_
  rintro e w3 ⟨rfl, hK⟩
  have HR3 := hid (HR2.out.kept hK)
  have HK3 := hid (HK2.out.trans hK)
  have hlen : (fmtV k).length ≤ 450 := fmtV_len k
  generalize fmtV k = s at hlen ⊢
  clear hK
  go_wp2_with fail
  refine (pick_any rb _ 8 _ HR3.out (by omega) (by omega)).mono ?_
  rintro e w4 ⟨x, rfl, x0, x1, -, hK, hR⟩
  have hx := x1 (by omega)
  have HK4 := hid (HK3.out.trans' hK (ds := []) (by simp) (fun x e hx => by simp at e; omega))
  have HR4 := hid hR
  have a1 : (s.length : Int) + 4 ≤ 9223372036854775807 := by omega
  have a2 : s.length + 4 ≤ 9223372036854775807 := by omega
  have a3 : (4 : Int) + s.length ≤ 9223372036854775807 := by omega
  have a4 : 4 + s.length ≤ 9223372036854775807 := by omega
  clear hK hR x1
  by_cases q0 : x = 0
  · subst q0
    go_wp2_with fail
    refine (lits_of rb _ [[], [97, 108, 108, 32, 97, 108, 108], [110, 111, 116], [97, 110, 100, 32, 97, 108, 108], [111, 114, 32, 115, 101, 101, 110], [116, 101, 120, 116], [116, 101, 120, 116, 32, 65], [117, 105, 100, 32, 48], [97, 116, 32, 55, 58, 55], [115, 101, 101, 110, 32], [32, 115, 101, 101, 110], [110, 111, 116, 32, 32, 115, 101, 101, 110], [83, 101, 101, 110]] (by decide) (by decide) (by decide) (by omega) _ HR4.out).mono ?_
    rintro e w5 ⟨l, rfl, hl, hK, hR⟩
    have HK5 := hid (HK4.out.trans' hK (ds := []) (by simp) (fun x e hx => by simp at e; omega))
    clear hK hR
    go_wp2
    go_ret
    exact ⟨l, rfl, by omega, HK5.out⟩
  have e0 : (x == 0) = false := by rw [beq_eq_false_iff_ne]; exact q0
  by_cases q1 : x = 1
  · subst q1
    go_wp2
    go_ret
    exact ⟨s ++ [32, 97, 108, 108], ret_str (by rw [← toList_inj]; simp), by simp; omega, HK4.out⟩
  have e1 : (x == 1) = false := by rw [beq_eq_false_iff_ne]; exact q1
  by_cases q2 : x = 2
  · subst q2
    go_wp2
    go_ret
    exact ⟨[110, 111, 116, 32] ++ s, ret_str (by rw [← toList_inj]; simp), by simp; omega, HK4.out⟩
  have e2 : (x == 2) = false := by rw [beq_eq_false_iff_ne]; exact q2
  go_wp2
  go_ret
  exact ⟨s, rfl, by omega, HK4.out⟩
end Go.Proofs.YtoleonldkifcbaaGreatDoor
