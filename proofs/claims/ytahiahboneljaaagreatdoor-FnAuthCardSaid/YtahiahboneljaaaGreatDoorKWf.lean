/- The walks of the lines of a submission (spec). -/
import Derived.Test.YtahiahboneljaaaGreatDoorKWe
import Derived.Deep.AppendSrc
namespace Go.Proofs.YtahiahboneljaaaGreatDoor
open Go.RowKit

theorem strs_none (w : World) (a : Option Addr) (cap : Nat) : StrsAt 0 w (.slice a 0 cap) [] :=
  ⟨a, cap, 0, 0, rfl, Nat.zero_le _, Nat.zero_le _, fun h => absurd h (by simp), fun j hj => absurd hj (by simp)⟩

theorem l21Back_any (v : Value) (s : Sb) (w : World) (hu : SubAt 0 w v s) :
    Calls Tryz.prog 60 #[v] w fun e w' => ∃ r, e = .returned r ∧ SubAt 0 w' r (backP s) ∧ Kept [] w w' := by
  obtain ⟨tv, rfl, hst, hul, htl⟩ := hu
  obtain ⟨a, cap, rfl⟩ := hst.form
  obtain ⟨stage, user, tos, text⟩ := s
  dsimp only at hst hul htl ⊢
  by_cases h2 : 2 ≤ stage
  · have hr : backP ⟨stage, user, tos, text⟩ = ⟨2, user, [], []⟩ := by unfold backP; rw [if_pos h2]
    rw [hr]
    clear hr
    go_enter Tryz.func60, Tryz.ntmps60
    go_wp2
    refine bodyPost_ret (v := .agg #[.int .i64 2, .string (bs user), .slice (some ⟨w.heap.size + 1 + 1, 0, none⟩) 0 0, .string ⟨#[]⟩]) (by simp [results, Tryz.results60, go_sem]) rfl ⟨_, rfl, ⟨_, rfl, strs_none _ _ _, hul, Nat.zero_le _⟩, ?_⟩
    exact (((Kept.refl [] w).alloc _).alloc _).alloc _
  · have hr : backP ⟨stage, user, tos, text⟩ = ⟨stage, [], [], []⟩ := by unfold backP; rw [if_neg h2]
    rw [hr]
    clear hr
    go_enter Tryz.func60, Tryz.ntmps60
    go_wp2
    refine bodyPost_ret (v := .agg #[.int .i64 stage, .string ⟨#[]⟩, .slice (some ⟨w.heap.size + 1 + 1, 0, none⟩) 0 0, .string ⟨#[]⟩]) (by simp [results, Tryz.results60, go_sem]) rfl ⟨_, rfl, ⟨_, rfl, strs_none _ _ _, Nat.zero_le _, Nat.zero_le _⟩, ?_⟩
    exact (((Kept.refl [] w).alloc _).alloc _).alloc _

theorem sSubCells {w : World} {b : Nat} {s : Sb} {tv : Value} (h : w.heap[b]? = some (.cells #[.int .i64 s.stage, .string (bs s.user), tv, .string (bs s.text)] 25 (0, 0))) :
    w.cell? ⟨b, 0, none⟩ = some (.int .i64 s.stage) ∧ w.cell? ⟨b, 1, none⟩ = some (.string (bs s.user)) ∧ w.cell? ⟨b, 2, none⟩ = some tv ∧ w.cell? ⟨b, 3, none⟩ = some (.string (bs s.text)) :=
  ⟨by rw [cell_of_block h]; rfl, by rw [cell_of_block h]; rfl, by rw [cell_of_block h]; rfl, by rw [cell_of_block h]; rfl⟩
end Go.Proofs.YtahiahboneljaaaGreatDoor
namespace Go.Proofs.YtahiahboneljaaaGreatDoor
open Go.RowKit

/-- The receivers of a submission's value. -/
def subTo : Value → Value
  | .agg cs => (cs[2]?).getD (.bool false)
  | v => v
/-- The number of receivers of a submission's value. -/
def subLen (v : Value) : Nat := match subTo v with
  | .slice _ n _ => n
  | _ => 0
/-- What a line's function hands back: a submission and a number; its receivers lie where the argument's lay, or in a new block. -/
def LineRes (w : World) (v : Value) (x : Sb × Int) (e : Ending) (w' : World) : Prop :=
  ∃ r, e = .returned (.tuple #[r, .int .i64 x.2]) ∧ SubAt 0 w' r x.1 ∧ Kept [] w w' ∧ ∀ R, R < w.heap.size → ((subTo v).ownBlock ≠ some R ∨ subLen v = 0) → (subTo r).ownBlock ≠ some R ∨ x.1.to = []

/-- Two blocks made ahead of a call that has kept all. -/
theorem two_blocks {w W : World} {A Z : Obj} (k : Kept [] ((w.alloc A).alloc Z) W) :
    W.heap[w.heap.size]? = some A ∧ W.heap[w.heap.size + 1]? = some Z ∧ Kept [] w W ∧ w.heap.size + 1 < W.heap.size := by
  have h1 := k.same (alloc_block (new_block w A) Z) (by simp)
  have h2 := new_block (w.alloc A) Z
  have e : (w.alloc A).heap.size = w.heap.size + 1 := by simp
  rw [e] at h2
  have h3 := k.same h2 (by simp)
  exact ⟨h1, h3, (((Kept.refl [] w).alloc A).alloc Z).trans k, lt_of_block h3⟩

theorem sHello_any (v wv : Value) (s : Sb) (ws : List (List UInt8)) (w : World) (hu : SubAt 0 w v s) (hw : StrsAt 0 w wv ws) :
    Calls Tryz.prog 56 #[v, wv] w (LineRes w v (helloP s ws)) := by
  obtain ⟨tv, rfl, hst, hul, htl⟩ := hu
  obtain ⟨ta, tcap, rfl⟩ := hst.form
  obtain ⟨stage, user, tos, text⟩ := s
  dsimp only at hst hul htl ⊢
  obtain ⟨a, cap, b, off, rfl, hl, hcap, ha, hc⟩ := hw
  have HST := hid hst
  clear hst
  by_cases h2 : ws.length = 2
  · obtain ⟨rfl, -, hbw⟩ := ha (by omega)
    obtain ⟨hc1, hs1⟩ := hc 1 (by omega)
    have hcap1 : (1 : Int) < ws.length := by omega
    have hcap2 : 1 < cap := by omega
    have hg : ws.getD 1 [] = ws[1] := by simp [List.getD, List.getElem?_eq_getElem (by omega : 1 < ws.length)]
    have hlen : (ws.length : Int) = 2 := by omega
    have HC := hid hc
    clear hc ha
    cases hd : isDomain ws[1] with
    | false =>
      have hr : helloP ⟨stage, user, tos, text⟩ ws = (⟨stage, user, tos, text⟩, 501) := by unfold helloP; rw [if_neg (by rw [hg, hd]; simp)]
      rw [hr]
      clear hr hg
      go_enter Tryz.func56, Tryz.ntmps56
      go_wp2_with fail
      refine (sDomainValid_any (bs ws[1]) _ (by rw [bs_size]; exact hs1)).mono ?_
      rintro e w1 ⟨rfl, hK⟩
      rw [bs_toList, hd]
      obtain ⟨hA, hZ, hk, hz⟩ := two_blocks hK
      have a0 := cell_of_block hA 0
      have a1 := cell_of_block hA 1
      have a2 := cell_of_block hA 2
      have a3 := cell_of_block hA 3
      have z0 := cell_of_block hZ 0
      have z1 := cell_of_block hZ 1
      have z2 := cell_of_block hZ 2
      have z3 := cell_of_block hZ 3
      have f0 := frozen_of_block hZ 0
      have f1 := frozen_of_block hZ 1
      have f2 := frozen_of_block hZ 2
      have f3 := frozen_of_block hZ 3
      have HK := hid hk
      simp at a0 a1 a2 a3 z0 z1 z2 z3
      clear hA hZ hK hk
      go_wp2
      refine bodyPost_ret (v := .tuple #[.agg #[.int .i64 stage, .string (bs user), .slice ta tos.length tcap, .string (bs text)], .int .i64 501]) (by simp [results, Tryz.results56, go_sem, z0, z1, z2, z3]) rfl ⟨_, rfl, ⟨_, rfl, HST.out.kept0 ?_, hul, htl⟩, ?_, fun R _ h => h.elim .inl (fun e => .inr (List.eq_nil_of_length_eq_zero e))⟩
      all_goals (repeat' with_reducible first | exact HK.out | refine Kept.setCell ?_ _ _ (by simp))
    | true =>
      have hr : helloP ⟨stage, user, tos, text⟩ ws = (backP ⟨if stage = 0 then 1 else stage, user, tos, text⟩, 250) := by unfold helloP; rw [if_pos ⟨h2, by rw [hg, hd]⟩]
      rw [hr]
      clear hr hg
      by_cases hst : stage = 0
      · rw [if_pos hst]
        subst hst
        go_enter Tryz.func56, Tryz.ntmps56
        go_wp2_with fail
        refine (sDomainValid_any (bs ws[1]) _ (by rw [bs_size]; exact hs1)).mono ?_
        rintro e w1 ⟨rfl, hK⟩
        rw [bs_toList, hd]
        obtain ⟨hA, hZ, hk, hz⟩ := two_blocks hK
        have a0 := cell_of_block hA 0
        have a1 := cell_of_block hA 1
        have a2 := cell_of_block hA 2
        have a3 := cell_of_block hA 3
        have z0 := cell_of_block hZ 0
        have z1 := cell_of_block hZ 1
        have z2 := cell_of_block hZ 2
        have z3 := cell_of_block hZ 3
        have f0 := frozen_of_block hZ 0
        have f1 := frozen_of_block hZ 1
        have f2 := frozen_of_block hZ 2
        have f3 := frozen_of_block hZ 3
        have HK := hid hk
        simp at a0 a1 a2 a3 z0 z1 z2 z3
        have g0 := frozen_of_block hA 0
        have HA := hid hA
        have HZ := hid hZ
        clear hA hZ hK hk
        have KW := hid (HK.out.setCell ⟨w.heap.size, 0, none⟩ (.int .i64 1) (by simp))
        have ZW := hid (set_other HZ.out ⟨w.heap.size, 0, none⟩ (.int .i64 1) (by simp))
        go_wp2_with fail
        refine (l21Back_any _ ⟨1, user, tos, text⟩ _ ⟨_, rfl, HST.out.kept0 KW.out, hul, htl⟩).mono ?_
        rintro e w2 ⟨r, rfl, ⟨tv2, rfl, hs2, hu2, ht2⟩, hK2⟩
        obtain ⟨ra, rcap, rfl⟩ := hs2.form
        have hZ2 := hK2.same ZW.out (by simp)
        have z0 := cell_of_block hZ2 0
        have z1 := cell_of_block hZ2 1
        have z2 := cell_of_block hZ2 2
        have z3 := cell_of_block hZ2 3
        have f0 := frozen_of_block hZ2 0
        have f1 := frozen_of_block hZ2 1
        have f2 := frozen_of_block hZ2 2
        have f3 := frozen_of_block hZ2 3
        have hz2 := lt_of_block hZ2
        simp at z0 z1 z2 z3
        have HK2 := hid (KW.out.trans hK2)
        have HS2 := hid hs2
        have HU2 := hid hu2
        have HT2 := hid ht2
        have HQ : Hid (∃ q, backP ⟨1, user, tos, text⟩ = q) := ⟨_, rfl⟩
        obtain ⟨q, hq⟩ := HQ.out
        rw [hq] at HS2 HU2 HT2 ⊢
        have HEQ := hid hq
        clear hq HQ
        clear hZ2 hK2 hs2 hu2 ht2
        go_wp2
        refine bodyPost_ret (v := .tuple #[.agg #[.int .i64 q.stage, .string (bs q.user), .slice ra q.to.length rcap, .string (bs q.text)], .int .i64 250]) (by simp [results, Tryz.results56, go_sem, z0, z1, z2, z3]) rfl ?_
        rw [HEQ.out]
        have hqt : q.to = [] := by rw [← HEQ.out]; unfold backP; split <;> rfl
        refine ⟨_, rfl, ⟨_, rfl, by rw [hqt]; exact strs_none _ _ _, HU2.out, HT2.out⟩, ?_, fun R _ _ => .inr hqt⟩
        (repeat' with_reducible first | exact HK2.out | refine Kept.setCell ?_ _ _ (by simp))
      · rw [if_neg hst]
        go_enter Tryz.func56, Tryz.ntmps56
        go_wp2_with fail
        refine (sDomainValid_any (bs ws[1]) _ (by rw [bs_size]; exact hs1)).mono ?_
        rintro e w1 ⟨rfl, hK⟩
        rw [bs_toList, hd]
        obtain ⟨hA, hZ, hk, hz⟩ := two_blocks hK
        have a0 := cell_of_block hA 0
        have a1 := cell_of_block hA 1
        have a2 := cell_of_block hA 2
        have a3 := cell_of_block hA 3
        have z0 := cell_of_block hZ 0
        have z1 := cell_of_block hZ 1
        have z2 := cell_of_block hZ 2
        have z3 := cell_of_block hZ 3
        have f0 := frozen_of_block hZ 0
        have f1 := frozen_of_block hZ 1
        have f2 := frozen_of_block hZ 2
        have f3 := frozen_of_block hZ 3
        have HK := hid hk
        simp at a0 a1 a2 a3 z0 z1 z2 z3
        have g0 := frozen_of_block hA 0
        have HA := hid hA
        have HZ := hid hZ
        clear hA hZ hK hk
        have KW := HK
        have ZW := HZ
        go_wp2_with fail
        refine (l21Back_any _ ⟨stage, user, tos, text⟩ _ ⟨_, rfl, HST.out.kept0 KW.out, hul, htl⟩).mono ?_
        rintro e w2 ⟨r, rfl, ⟨tv2, rfl, hs2, hu2, ht2⟩, hK2⟩
        obtain ⟨ra, rcap, rfl⟩ := hs2.form
        have hZ2 := hK2.same ZW.out (by simp)
        have z0 := cell_of_block hZ2 0
        have z1 := cell_of_block hZ2 1
        have z2 := cell_of_block hZ2 2
        have z3 := cell_of_block hZ2 3
        have f0 := frozen_of_block hZ2 0
        have f1 := frozen_of_block hZ2 1
        have f2 := frozen_of_block hZ2 2
        have f3 := frozen_of_block hZ2 3
        have hz2 := lt_of_block hZ2
        simp at z0 z1 z2 z3
        have HK2 := hid (KW.out.trans hK2)
        have HS2 := hid hs2
        have HU2 := hid hu2
        have HT2 := hid ht2
        have HQ : Hid (∃ q, backP ⟨stage, user, tos, text⟩ = q) := ⟨_, rfl⟩
        obtain ⟨q, hq⟩ := HQ.out
        rw [hq] at HS2 HU2 HT2 ⊢
        have HEQ := hid hq
        clear hq HQ
        clear hZ2 hK2 hs2 hu2 ht2
        go_wp2
        refine bodyPost_ret (v := .tuple #[.agg #[.int .i64 q.stage, .string (bs q.user), .slice ra q.to.length rcap, .string (bs q.text)], .int .i64 250]) (by simp [results, Tryz.results56, go_sem, z0, z1, z2, z3]) rfl ?_
        rw [HEQ.out]
        have hqt : q.to = [] := by rw [← HEQ.out]; unfold backP; split <;> rfl
        refine ⟨_, rfl, ⟨_, rfl, by rw [hqt]; exact strs_none _ _ _, HU2.out, HT2.out⟩, ?_, fun R _ _ => .inr hqt⟩
        (repeat' with_reducible first | exact HK2.out | refine Kept.setCell ?_ _ _ (by simp))
  · have hr : helloP ⟨stage, user, tos, text⟩ ws = (⟨stage, user, tos, text⟩, 501) := by unfold helloP; rw [if_neg (by intro e; exact h2 e.1)]
    have hlen : ¬ (ws.length : Int) = 2 := by omega
    rw [hr]
    clear hr h2 hc ha
    go_enter Tryz.func56, Tryz.ntmps56
    go_wp2
    refine bodyPost_ret (v := .tuple #[.agg #[.int .i64 stage, .string (bs user), .slice ta tos.length tcap, .string (bs text)], .int .i64 501]) (by simp [results, Tryz.results56, go_sem]) rfl ⟨_, rfl, ⟨_, rfl, HST.out.kept0 (((Kept.refl [] w).alloc _).alloc _), hul, htl⟩, ((Kept.refl [] w).alloc _).alloc _, fun R _ h => h.elim .inl (fun e => .inr (List.eq_nil_of_length_eq_zero e))⟩
end Go.Proofs.YtahiahboneljaaaGreatDoor
namespace Go.Proofs.YtahiahboneljaaaGreatDoor
open Go.RowKit

theorem sData_any (v : Value) (s : Sb) (line : ByteArray) (w : World) (hu : SubAt 0 w v s) (hl : line.size ≤ bigN) (hx : s.text.length ≤ 21) :
    Calls Tryz.prog 55 #[v, .string line] w (LineRes w v (dataP s line.data.toList)) := by
  obtain ⟨tv, rfl, hst, hul, htl⟩ := hu
  obtain ⟨ta, tcap, rfl⟩ := hst.form
  obtain ⟨stage, user, tos, text⟩ := s
  obtain ⟨L, rfl⟩ : ∃ L, line = bs L := ⟨_, (bs_of line).symm⟩
  rw [bs_toList]
  rw [bs_size] at hl
  dsimp only at hst hul htl hx ⊢
  have HST := hid hst
  clear hst
  by_cases hd : L = [46]
  · have hd' : ((bs L).toList == [46]) = true := by rw [str_eq, bs_toList]; simp [hd]
    by_cases ht : 20 < text.length
    · have hr : dataP ⟨stage, user, tos, text⟩ L = (backP ⟨stage, user, tos, text⟩, 552) := by unfold dataP; rw [if_pos hd, if_pos ht]
      rw [hr]
      have ht' : (20 : Int) < text.length := by omega
      clear hr hd ht
      go_enter Tryz.func55, Tryz.ntmps55
      go_wp2_with fail
      refine (l21Back_any _ ⟨stage, user, tos, text⟩ _ ⟨_, rfl, HST.out.kept0 (((Kept.refl [] w).alloc _).alloc _), hul, htl⟩).mono ?_
      rintro e w2 ⟨r, rfl, ⟨tv2, rfl, hs2, hu2, ht2⟩, hK2⟩
      obtain ⟨ra, rcap, rfl⟩ := hs2.form
      obtain ⟨q, hq⟩ : ∃ q, backP ⟨stage, user, tos, text⟩ = q := ⟨_, rfl⟩
      rw [hq] at hs2 hu2 ht2 ⊢
      have HS2 := hid hs2
      have HU2 := hid hu2
      have HT2 := hid ht2
      have HEQ := hid hq
      clear hq hs2 hu2 ht2
      obtain ⟨hA, hZ, hk, hz⟩ := two_blocks hK2
      have hy := lt_of_block hA
      have a0 := cell_of_block hA 0
      have a1 := cell_of_block hA 1
      have a2 := cell_of_block hA 2
      have a3 := cell_of_block hA 3
      have z0 := cell_of_block hZ 0
      have z1 := cell_of_block hZ 1
      have z2 := cell_of_block hZ 2
      have z3 := cell_of_block hZ 3
      have g0 := frozen_of_block hA 0
      have g1 := frozen_of_block hA 1
      have g2 := frozen_of_block hA 2
      have g3 := frozen_of_block hA 3
      have f0 := frozen_of_block hZ 0
      have f1 := frozen_of_block hZ 1
      have f2 := frozen_of_block hZ 2
      have f3 := frozen_of_block hZ 3
      simp at a0 a1 a2 a3 z0 z1 z2 z3
      have HK := hid hk
      have HA := hid hA
      have HZ := hid hZ
      clear hA hZ hK2 hk
      go_wp2
      refine bodyPost_ret (v := .tuple #[.agg #[.int .i64 q.stage, .string (bs q.user), .slice ra q.to.length rcap, .string (bs q.text)], .int .i64 552]) (by simp [results, Tryz.results55, go_sem, z0, z1, z2, z3]) rfl ?_
      rw [HEQ.out]
      have hqt : q.to = [] := by rw [← HEQ.out]; unfold backP; split <;> rfl
      refine ⟨_, rfl, ⟨_, rfl, by rw [hqt]; exact strs_none _ _ _, HU2.out, HT2.out⟩, ?_, fun R _ _ => .inr hqt⟩
      (repeat' with_reducible first | exact HK.out | refine Kept.setCell ?_ _ _ (by simp) | refine Kept.drewN ?_ _ | refine Kept.drew ?_ | refine Kept.alloc ?_ _)
    · have hr : dataP ⟨stage, user, tos, text⟩ L = (backP ⟨stage, user, tos, text⟩, 250) := by unfold dataP; rw [if_pos hd, if_neg ht]
      rw [hr]
      have ht' : ¬ (20 : Int) < text.length := by omega
      clear hr hd ht
      go_enter Tryz.func55, Tryz.ntmps55
      go_wp2_with fail
      refine (l21Back_any _ ⟨stage, user, tos, text⟩ _ ⟨_, rfl, HST.out.kept0 (((Kept.refl [] w).alloc _).alloc _), hul, htl⟩).mono ?_
      rintro e w2 ⟨r, rfl, ⟨tv2, rfl, hs2, hu2, ht2⟩, hK2⟩
      obtain ⟨ra, rcap, rfl⟩ := hs2.form
      obtain ⟨q, hq⟩ : ∃ q, backP ⟨stage, user, tos, text⟩ = q := ⟨_, rfl⟩
      rw [hq] at hs2 hu2 ht2 ⊢
      have HS2 := hid hs2
      have HU2 := hid hu2
      have HT2 := hid ht2
      have HEQ := hid hq
      clear hq hs2 hu2 ht2
      obtain ⟨hA, hZ, hk, hz⟩ := two_blocks hK2
      have hy := lt_of_block hA
      have a0 := cell_of_block hA 0
      have a1 := cell_of_block hA 1
      have a2 := cell_of_block hA 2
      have a3 := cell_of_block hA 3
      have z0 := cell_of_block hZ 0
      have z1 := cell_of_block hZ 1
      have z2 := cell_of_block hZ 2
      have z3 := cell_of_block hZ 3
      have g0 := frozen_of_block hA 0
      have g1 := frozen_of_block hA 1
      have g2 := frozen_of_block hA 2
      have g3 := frozen_of_block hA 3
      have f0 := frozen_of_block hZ 0
      have f1 := frozen_of_block hZ 1
      have f2 := frozen_of_block hZ 2
      have f3 := frozen_of_block hZ 3
      simp at a0 a1 a2 a3 z0 z1 z2 z3
      have HK := hid hk
      have HA := hid hA
      have HZ := hid hZ
      clear hA hZ hK2 hk
      go_wp2
      refine bodyPost_ret (v := .tuple #[.agg #[.int .i64 q.stage, .string (bs q.user), .slice ra q.to.length rcap, .string (bs q.text)], .int .i64 250]) (by simp [results, Tryz.results55, go_sem, z0, z1, z2, z3]) rfl ?_
      rw [HEQ.out]
      have hqt : q.to = [] := by rw [← HEQ.out]; unfold backP; split <;> rfl
      refine ⟨_, rfl, ⟨_, rfl, by rw [hqt]; exact strs_none _ _ _, HU2.out, HT2.out⟩, ?_, fun R _ _ => .inr hqt⟩
      (repeat' with_reducible first | exact HK.out | refine Kept.setCell ?_ _ _ (by simp) | refine Kept.drewN ?_ _ | refine Kept.drew ?_ | refine Kept.alloc ?_ _)
  · have hd' : ((bs L).toList == [46]) = false := by rw [str_eq, bs_toList]; simp [hd]
    have hr : dataP ⟨stage, user, tos, text⟩ L = (⟨stage, user, tos, (text ++ trimP L ++ [10]).take 21⟩, 0) := by unfold dataP; rw [if_neg hd]
    rw [hr]
    clear hr hd
    have hs1 : ¬ 9223372036854775807 < (text.length : Int) + (trimP L).length := by have := trimP_len L; unfold bigN at hl; omega
    have hs2 : ¬ 9223372036854775807 < (text.length : Int) + (trimP L).length + 1 := by have := trimP_len L; unfold bigN at hl; omega
    cases L with
    | nil =>
      have he : (bs ([] : List UInt8)).toList.isEmpty = true := by rw [empty_bs]; rfl
      simp only [trimP, List.length_nil] at hs1 hs2
      go_enter Tryz.func55, Tryz.ntmps55
      have hcut : (bs text ++ bs [] ++ (⟨#[10]⟩ : ByteArray)).extract 0 (min ((text.length : Int) + 1) 21).toNat = bs ((text ++ trimP [] ++ [10]).take 21) := by
        have := cut21 text []
        rw [List.length_nil] at this
        rw [show ((text.length : Int) + ((0 : Nat) : Int) + 1) = (text.length : Int) + 1 by omega] at this
        exact this
      go_wp2
      refine bodyPost_ret (v := .tuple #[.agg #[.int .i64 stage, .string (bs user), .slice ta tos.length tcap, .string (bs ((text ++ (trimP [] ++ [10])).take 21))], .int .i64 0]) (by simp [results, Tryz.results55, go_sem]) rfl ⟨_, rfl, ⟨_, rfl, HST.out.kept0 (((Kept.refl [] w).alloc _).alloc _), hul, ?_⟩, ((Kept.refl [] w).alloc _).alloc _, fun R _ h => h.elim .inl (fun e => .inr (List.eq_nil_of_length_eq_zero e))⟩
      unfold bigN; simp; omega
    | cons b r =>
      by_cases hb : b = 46
      · subst hb
        have he : (bs ((46 : UInt8) :: r)).toList.isEmpty = false := by rw [empty_bs]; rfl
        have hcut := cut21 text r
        have hex : (bs ((46 : UInt8) :: r)).extract 1 (r.length + 1) = bs r := by rw [extract_bs, bs_toList]; congr 1; simp
        have htr : trimP ((46 : UInt8) :: r) = r := rfl
        have hb0 : ∀ h, (bs ((46 : UInt8) :: r))[0]'h = 46 := fun h => rfl
        rw [htr] at hs1 hs2
        rw [htr]
        go_enter Tryz.func55, Tryz.ntmps55
        go_wp2
        refine bodyPost_ret (v := .tuple #[.agg #[.int .i64 stage, .string (bs user), .slice ta tos.length tcap, .string (bs ((text ++ (r ++ [10])).take 21))], .int .i64 0]) (by simp [results, Tryz.results55, go_sem]) rfl ⟨_, rfl, ⟨_, rfl, HST.out.kept0 (((Kept.refl [] w).alloc _).alloc _), hul, ?_⟩, ((Kept.refl [] w).alloc _).alloc _, fun R _ h => h.elim .inl (fun e => .inr (List.eq_nil_of_length_eq_zero e))⟩
        unfold bigN; simp; omega
      · have he : (bs (b :: r)).toList.isEmpty = false := by rw [empty_bs]; rfl
        have hcut := cut21 text (b :: r)
        have htr : trimP (b :: r) = b :: r := by show (if b = 46 then r else b :: r) = _; rw [if_neg hb]
        have hbi : ¬ (b.toNat : Int) = 46 := fun e => hb (UInt8.toNat_inj.1 (by show _ = (46 : Nat); omega))
        have hb0 : ∀ h, (bs (b :: r))[0]'h = b := fun h => rfl
        rw [htr] at hs1 hs2
        rw [htr]
        have hs3 : ¬ 9223372036854775807 < text.length + (r.length + 1) := by simp at hs1; omega
        have hs4 : ¬ 9223372036854775807 < text.length + (r.length + 1) + 1 := by simp at hs2; omega
        have hbq : ((b.toNat : Int) == 46) = false := by simpa using hbi
        rw [List.length_cons] at hcut
        rw [show ((r.length + 1 : Nat) : Int) = (r.length : Int) + 1 from rfl] at hcut
        clear hs1 hs2 hbi
        go_enter Tryz.func55, Tryz.ntmps55
        go_wp2
        refine bodyPost_ret (v := .tuple #[.agg #[.int .i64 stage, .string (bs user), .slice ta tos.length tcap, .string (bs ((text ++ b :: (r ++ [10])).take 21))], .int .i64 0]) (by simp [results, Tryz.results55, go_sem]) rfl ⟨.agg #[.int .i64 stage, .string (bs user), .slice ta tos.length tcap, .string (bs ((text ++ b :: (r ++ [10])).take 21))], rfl, ⟨.slice ta tos.length tcap, ?_, HST.out.kept0 (((Kept.refl [] w).alloc _).alloc _), hul, ?_⟩, ((Kept.refl [] w).alloc _).alloc _, fun R _ h => h.elim .inl (fun e => .inr (List.eq_nil_of_length_eq_zero e))⟩
        · simp
        · unfold bigN; simp; omega
end Go.Proofs.YtahiahboneljaaaGreatDoor
namespace Go.Proofs.YtahiahboneljaaaGreatDoor
open Go.RowKit

theorem sMailBeg_any (s : ByteArray) (w : World) (hs : s.size ≤ bigN) : Calls Tryz.prog 77 #[.string s, .string ⟨#[77, 65, 73, 76, 32, 70, 82, 79, 77, 58]⟩] w fun e w' => e = .returned (pathRes (pathP mailW s.data.toList)) ∧ Kept [] w w' :=
  l21Path_any s ⟨#[77, 65, 73, 76, 32, 70, 82, 79, 77, 58]⟩ w hs (by unfold bigN; decide)
theorem sToBeg_any (s : ByteArray) (w : World) (hs : s.size ≤ bigN) : Calls Tryz.prog 77 #[.string s, .string ⟨#[82, 67, 80, 84, 32, 84, 79, 58]⟩] w fun e w' => e = .returned (pathRes (pathP toW s.data.toList)) ∧ Kept [] w w' :=
  l21Path_any s ⟨#[82, 67, 80, 84, 32, 84, 79, 58]⟩ w hs (by unfold bigN; decide)

theorem pathRes_form (x : Option (List UInt8 × List UInt8)) : ∃ pu pd pb, pathRes x = .tuple #[.agg #[.string pu, .string pd], .bool pb] := by
  cases x with
  | none => exact ⟨_, _, _, rfl⟩
  | some y => exact ⟨_, _, _, rfl⟩

theorem sMail_any (v : Value) (s : Sb) (dom : List UInt8) (line : ByteArray) (w : World) (hu : SubAt 0 w v s) (hl : line.size ≤ bigN) :
    Calls Tryz.prog 58 #[v, .string (bs dom), .string line] w (LineRes w v (mailP s dom line.data.toList)) := by
  obtain ⟨tv, rfl, hst, hul, htl⟩ := hu
  obtain ⟨ta, tcap, rfl⟩ := hst.form
  obtain ⟨stage, user, tos, text⟩ := s
  dsimp only at hst hul htl ⊢
  have HST := hid hst
  clear hst
  by_cases h2 : stage = 2
  · have hm : ∀ x, pathP mailW line.data.toList = x → mailP ⟨stage, user, tos, text⟩ dom line.data.toList = match x with
        | none => (⟨stage, user, tos, text⟩, 501)
        | some (u, d) => if u = user ∧ d = dom then (⟨3, user, tos, text⟩, 250) else (⟨stage, user, tos, text⟩, 550) := fun x hx => by
      unfold mailP; rw [if_neg (by dsimp only; omega), if_neg (by dsimp only; omega), hx]; cases x <;> rfl
    have HM := hid hm
    subst h2
    clear hm
    cases hpp : pathP mailW line.data.toList with
    | none =>
      have HR := hid (HM.out none hpp)
      go_enter Tryz.func58, Tryz.ntmps58
      go_wp2_with fail
      refine (sMailBeg_any line _ hl).mono ?_
      rintro e w1 ⟨rfl, hK⟩
      obtain ⟨hA, hZ, hk, hz⟩ := two_blocks hK
      have hy := lt_of_block hA
      have a0 := cell_of_block hA 0
      have a1 := cell_of_block hA 1
      have a2 := cell_of_block hA 2
      have a3 := cell_of_block hA 3
      have z0 := cell_of_block hZ 0
      have z1 := cell_of_block hZ 1
      have z2 := cell_of_block hZ 2
      have z3 := cell_of_block hZ 3
      have g0 := frozen_of_block hA 0
      have g1 := frozen_of_block hA 1
      have g2 := frozen_of_block hA 2
      have g3 := frozen_of_block hA 3
      have f0 := frozen_of_block hZ 0
      have f1 := frozen_of_block hZ 1
      have f2 := frozen_of_block hZ 2
      have f3 := frozen_of_block hZ 3
      simp at a0 a1 a2 a3 z0 z1 z2 z3
      have HK := hid hk
      have HA := hid hA
      have HZ := hid hZ
      clear hA hZ hK hk
      rw [hpp, show pathRes none = .tuple #[.agg #[.string ⟨#[]⟩, .string ⟨#[]⟩], .bool false] from rfl]
      clear hpp
      go_wp2
      rw [HR.out]
      refine bodyPost_ret (v := .tuple #[.agg #[.int .i64 2, .string (bs user), .slice ta tos.length tcap, .string (bs text)], .int .i64 501]) (by simp [results, Tryz.results58, go_sem, z0, z1, z2, z3, hz]) rfl ⟨_, rfl, ⟨_, rfl, HST.out.kept0 ?_, hul, htl⟩, ?_, fun R _ h => h.elim .inl (fun e => .inr (List.eq_nil_of_length_eq_zero e))⟩
      all_goals (repeat' with_reducible first | exact HK.out | refine Kept.setCell ?_ _ _ (by simp) | refine Kept.drewN ?_ _ | refine Kept.drew ?_ | refine Kept.alloc ?_ _)
    | some x =>
      obtain ⟨u, d⟩ := x
      have hr := HM.out _ hpp
      dsimp only at hr
      have b1 := bs_beq u user
      have b2 := bs_beq d dom
      by_cases e1 : u = user
      · rw [decide_eq_true e1] at b1
        by_cases e2 : d = dom
        · rw [decide_eq_true e2] at b2
          rw [if_pos ⟨e1, e2⟩] at hr
          have HR := hid hr
          have HPP := hid hpp
          clear hr hpp e1 e2
          go_enter Tryz.func58, Tryz.ntmps58
          go_wp2_with fail
          refine (sMailBeg_any line _ hl).mono ?_
          rintro e w1 ⟨rfl, hK⟩
          obtain ⟨hA, hZ, hk, hz⟩ := two_blocks hK
          have hy := lt_of_block hA
          have a0 := cell_of_block hA 0
          have a1 := cell_of_block hA 1
          have a2 := cell_of_block hA 2
          have a3 := cell_of_block hA 3
          have z0 := cell_of_block hZ 0
          have z1 := cell_of_block hZ 1
          have z2 := cell_of_block hZ 2
          have z3 := cell_of_block hZ 3
          have g0 := frozen_of_block hA 0
          have g1 := frozen_of_block hA 1
          have g2 := frozen_of_block hA 2
          have g3 := frozen_of_block hA 3
          have f0 := frozen_of_block hZ 0
          have f1 := frozen_of_block hZ 1
          have f2 := frozen_of_block hZ 2
          have f3 := frozen_of_block hZ 3
          simp at a0 a1 a2 a3 z0 z1 z2 z3
          have HK := hid hk
          have HA := hid hA
          have HZ := hid hZ
          clear hA hZ hK hk
          rw [HPP.out, show pathRes (some (u, d)) = .tuple #[.agg #[.string (bs u), .string (bs d)], .bool true] from rfl]
          go_wp2
          rw [HR.out]
          refine bodyPost_ret (v := .tuple #[.agg #[.int .i64 3, .string (bs user), .slice ta tos.length tcap, .string (bs text)], .int .i64 250]) (by simp [results, Tryz.results58, go_sem, z0, z1, z2, z3, hz]) rfl ⟨_, rfl, ⟨_, rfl, HST.out.kept0 ?_, hul, htl⟩, ?_, fun R _ h => h.elim .inl (fun e => .inr (List.eq_nil_of_length_eq_zero e))⟩
          all_goals (repeat' with_reducible first | exact HK.out | refine Kept.setCell ?_ _ _ (by simp) | refine Kept.drewN ?_ _ | refine Kept.drew ?_ | refine Kept.alloc ?_ _)
        · rw [decide_eq_false e2] at b2
          rw [if_neg (fun e => e2 e.2)] at hr
          have HR := hid hr
          have HPP := hid hpp
          clear hr hpp e1 e2
          go_enter Tryz.func58, Tryz.ntmps58
          go_wp2_with fail
          refine (sMailBeg_any line _ hl).mono ?_
          rintro e w1 ⟨rfl, hK⟩
          obtain ⟨hA, hZ, hk, hz⟩ := two_blocks hK
          have hy := lt_of_block hA
          have a0 := cell_of_block hA 0
          have a1 := cell_of_block hA 1
          have a2 := cell_of_block hA 2
          have a3 := cell_of_block hA 3
          have z0 := cell_of_block hZ 0
          have z1 := cell_of_block hZ 1
          have z2 := cell_of_block hZ 2
          have z3 := cell_of_block hZ 3
          have g0 := frozen_of_block hA 0
          have g1 := frozen_of_block hA 1
          have g2 := frozen_of_block hA 2
          have g3 := frozen_of_block hA 3
          have f0 := frozen_of_block hZ 0
          have f1 := frozen_of_block hZ 1
          have f2 := frozen_of_block hZ 2
          have f3 := frozen_of_block hZ 3
          simp at a0 a1 a2 a3 z0 z1 z2 z3
          have HK := hid hk
          have HA := hid hA
          have HZ := hid hZ
          clear hA hZ hK hk
          rw [HPP.out, show pathRes (some (u, d)) = .tuple #[.agg #[.string (bs u), .string (bs d)], .bool true] from rfl]
          go_wp2
          rw [HR.out]
          refine bodyPost_ret (v := .tuple #[.agg #[.int .i64 2, .string (bs user), .slice ta tos.length tcap, .string (bs text)], .int .i64 550]) (by simp [results, Tryz.results58, go_sem, z0, z1, z2, z3, hz]) rfl ⟨_, rfl, ⟨_, rfl, HST.out.kept0 ?_, hul, htl⟩, ?_, fun R _ h => h.elim .inl (fun e => .inr (List.eq_nil_of_length_eq_zero e))⟩
          all_goals (repeat' with_reducible first | exact HK.out | refine Kept.setCell ?_ _ _ (by simp) | refine Kept.drewN ?_ _ | refine Kept.drew ?_ | refine Kept.alloc ?_ _)
      · rw [decide_eq_false e1] at b1
        rw [if_neg (fun e => e1 e.1)] at hr
        have HR := hid hr
        have HPP := hid hpp
        clear hr hpp e1 b2
        go_enter Tryz.func58, Tryz.ntmps58
        go_wp2_with fail
        refine (sMailBeg_any line _ hl).mono ?_
        rintro e w1 ⟨rfl, hK⟩
        obtain ⟨hA, hZ, hk, hz⟩ := two_blocks hK
        have hy := lt_of_block hA
        have a0 := cell_of_block hA 0
        have a1 := cell_of_block hA 1
        have a2 := cell_of_block hA 2
        have a3 := cell_of_block hA 3
        have z0 := cell_of_block hZ 0
        have z1 := cell_of_block hZ 1
        have z2 := cell_of_block hZ 2
        have z3 := cell_of_block hZ 3
        have g0 := frozen_of_block hA 0
        have g1 := frozen_of_block hA 1
        have g2 := frozen_of_block hA 2
        have g3 := frozen_of_block hA 3
        have f0 := frozen_of_block hZ 0
        have f1 := frozen_of_block hZ 1
        have f2 := frozen_of_block hZ 2
        have f3 := frozen_of_block hZ 3
        simp at a0 a1 a2 a3 z0 z1 z2 z3
        have HK := hid hk
        have HA := hid hA
        have HZ := hid hZ
        clear hA hZ hK hk
        rw [HPP.out, show pathRes (some (u, d)) = .tuple #[.agg #[.string (bs u), .string (bs d)], .bool true] from rfl]
        go_wp2
        rw [HR.out]
        refine bodyPost_ret (v := .tuple #[.agg #[.int .i64 2, .string (bs user), .slice ta tos.length tcap, .string (bs text)], .int .i64 550]) (by simp [results, Tryz.results58, go_sem, z0, z1, z2, z3, hz]) rfl ⟨_, rfl, ⟨_, rfl, HST.out.kept0 ?_, hul, htl⟩, ?_, fun R _ h => h.elim .inl (fun e => .inr (List.eq_nil_of_length_eq_zero e))⟩
        all_goals (repeat' with_reducible first | exact HK.out | refine Kept.setCell ?_ _ _ (by simp) | refine Kept.drewN ?_ _ | refine Kept.drew ?_ | refine Kept.alloc ?_ _)
  · have h2' : (stage == 2) = false := by simpa using h2
    have h2'' : (stage != 2) = true := by simpa using h2
    obtain ⟨pu, pd, pb, hpr⟩ := pathRes_form (pathP mailW line.data.toList)
    have HPR := hid hpr
    clear hpr
    by_cases h1 : stage < 2
    · have hr : mailP ⟨stage, user, tos, text⟩ dom line.data.toList = (⟨stage, user, tos, text⟩, 530) := by unfold mailP; rw [if_pos h1]
      rw [hr]
      clear hr h2
      go_enter Tryz.func58, Tryz.ntmps58
      go_wp2_with fail
      refine (sMailBeg_any line _ hl).mono ?_
      rintro e w1 ⟨rfl, hK⟩
      obtain ⟨hA, hZ, hk, hz⟩ := two_blocks hK
      have hy := lt_of_block hA
      have a0 := cell_of_block hA 0
      have a1 := cell_of_block hA 1
      have a2 := cell_of_block hA 2
      have a3 := cell_of_block hA 3
      have z0 := cell_of_block hZ 0
      have z1 := cell_of_block hZ 1
      have z2 := cell_of_block hZ 2
      have z3 := cell_of_block hZ 3
      have g0 := frozen_of_block hA 0
      have g1 := frozen_of_block hA 1
      have g2 := frozen_of_block hA 2
      have g3 := frozen_of_block hA 3
      have f0 := frozen_of_block hZ 0
      have f1 := frozen_of_block hZ 1
      have f2 := frozen_of_block hZ 2
      have f3 := frozen_of_block hZ 3
      simp at a0 a1 a2 a3 z0 z1 z2 z3
      have HK := hid hk
      have HA := hid hA
      have HZ := hid hZ
      clear hA hZ hK hk
      rw [HPR.out]
      go_wp2
      refine bodyPost_ret (v := .tuple #[.agg #[.int .i64 stage, .string (bs user), .slice ta tos.length tcap, .string (bs text)], .int .i64 530]) (by simp [results, Tryz.results58, go_sem, z0, z1, z2, z3, hz]) rfl ⟨_, rfl, ⟨_, rfl, HST.out.kept0 ?_, hul, htl⟩, ?_, fun R _ h => h.elim .inl (fun e => .inr (List.eq_nil_of_length_eq_zero e))⟩
      all_goals (repeat' with_reducible first | exact HK.out | refine Kept.setCell ?_ _ _ (by simp) | refine Kept.drewN ?_ _ | refine Kept.drew ?_ | refine Kept.alloc ?_ _)
    · have hr : mailP ⟨stage, user, tos, text⟩ dom line.data.toList = (⟨stage, user, tos, text⟩, 503) := by unfold mailP; rw [if_neg h1, if_pos h2]
      rw [hr]
      clear hr h2
      go_enter Tryz.func58, Tryz.ntmps58
      go_wp2_with fail
      refine (sMailBeg_any line _ hl).mono ?_
      rintro e w1 ⟨rfl, hK⟩
      obtain ⟨hA, hZ, hk, hz⟩ := two_blocks hK
      have hy := lt_of_block hA
      have a0 := cell_of_block hA 0
      have a1 := cell_of_block hA 1
      have a2 := cell_of_block hA 2
      have a3 := cell_of_block hA 3
      have z0 := cell_of_block hZ 0
      have z1 := cell_of_block hZ 1
      have z2 := cell_of_block hZ 2
      have z3 := cell_of_block hZ 3
      have g0 := frozen_of_block hA 0
      have g1 := frozen_of_block hA 1
      have g2 := frozen_of_block hA 2
      have g3 := frozen_of_block hA 3
      have f0 := frozen_of_block hZ 0
      have f1 := frozen_of_block hZ 1
      have f2 := frozen_of_block hZ 2
      have f3 := frozen_of_block hZ 3
      simp at a0 a1 a2 a3 z0 z1 z2 z3
      have HK := hid hk
      have HA := hid hA
      have HZ := hid hZ
      clear hA hZ hK hk
      rw [HPR.out]
      go_wp2
      refine bodyPost_ret (v := .tuple #[.agg #[.int .i64 stage, .string (bs user), .slice ta tos.length tcap, .string (bs text)], .int .i64 503]) (by simp [results, Tryz.results58, go_sem, z0, z1, z2, z3, hz]) rfl ⟨_, rfl, ⟨_, rfl, HST.out.kept0 ?_, hul, htl⟩, ?_, fun R _ h => h.elim .inl (fun e => .inr (List.eq_nil_of_length_eq_zero e))⟩
      all_goals (repeat' with_reducible first | exact HK.out | refine Kept.setCell ?_ _ _ (by simp) | refine Kept.drewN ?_ _ | refine Kept.drew ?_ | refine Kept.alloc ?_ _)
end Go.Proofs.YtahiahboneljaaaGreatDoor
namespace Go.Proofs.YtahiahboneljaaaGreatDoor
open Go.RowKit

set_option maxRecDepth 100000 in
/-- What append of strings to an empty row of the call's own makes. -/
theorem run_append_strs (w : World) (ty : TypeId) (base g0 : Nat) (hown : w.ownsRow base 9 1 (.slice (some ⟨g0, 0, none⟩) 0 0) 0 []) (x : Value) (l : List (List UInt8)) (hx : StrsAt 0 w x l) (hbase : base ≤ w.heap.size) :
    ∃ a cap w', (Builtin.append_ #[23, 23] ty #[.slice (some ⟨g0, 0, none⟩) 0 0, x]).run Tryz.prog w = .ok (.slice a l.length cap) w' ∧ w'.ownsRow base 9 1 (.slice a l.length cap) l.length (l.map sv) ∧ w.grownBy w' (some g0) := by
  obtain ⟨i0, hi, hz0, hz1, hz2⟩ := info_parts inf_string
  obtain ⟨a, cap, b, off, rfl, hl, hcap, ha, hc⟩ := hx
  rcases Nat.eq_zero_or_pos l.length with h0 | h0
  · have hnil : l = [] := List.eq_nil_of_length_eq_zero h0
    subst hnil
    have hs : Src Tryz.prog i0.size 23 (.slice a 0 cap) 0 [] w := by
      cases a with
      | none => exact Src.ofNil w Tryz.underlying23 cap
      | some ad => exact Src.ofSlice w Tryz.underlying23 ad 0 cap [] (by simp) (by simp) (by simp)
    have hr := run_append_room_src w 23 23 ty 9 i0 Tryz.underlying23 hi g0 0 0 0 _ 0 [] hs (by omega) (by simp) (by simp)
    exact ⟨_, _, _, hr, hown, ⟨rfl, rfl, rfl, Nat.le_refl _, fun _ _ _ => rfl⟩⟩
  · obtain ⟨rfl, -, hb⟩ := ha h0
    obtain ⟨v', w', hr, h2, h3, -⟩ := run_append_own (P := Tryz.prog) w base 23 ty 9 i0 _ 1 16 Tryz.underlying23 hi hz0 hz1 hz2 rfl (by decide) _ 0 [] hown ⟨b, off, none⟩ l.length cap (l.map sv) (by simp)
      (by
        intro j u hu
        rw [List.getElem?_map] at hu
        have hj : j < l.length := by
          rcases Nat.lt_or_ge j l.length with h | h
          · exact h
          · rw [List.getElem?_eq_none h] at hu; cases hu
        rw [List.getElem?_eq_getElem hj] at hu
        injection hu with hu
        subst hu
        rw [Addr.add_lit]; exact (hc j hj).1)
      (by intro u hu; obtain ⟨y, -, rfl⟩ := List.mem_map.1 hu; rfl) (by unfold bigN at hl; unfold maxLen; omega) (by unfold bigN at hl; omega) hbase
    rw [Nat.zero_add, List.nil_append] at h2
    obtain ⟨g, c, hv, -⟩ := own_open h2 h0
    subst hv
    exact ⟨_, _, _, hr, h2, h3⟩

theorem append_strs {ops : Array Oper} {rest : List Oper} {o : Oper} {a : Act} {w : World} {Q : Exit → Act → World → Prop} (hgd : o.guard = none) (s x : Operand)
    (ho : o.op = .call { callee := .builtin .append, args := #[s, x], argTypes := #[23, 23] })
    (base g0 : Nat) (hs : a.eval s = .slice (some ⟨g0, 0, none⟩) 0 0) (hown : w.ownsRow base 9 1 (.slice (some ⟨g0, 0, none⟩) 0 0) 0 []) (xv : Value) (l : List (List UInt8)) (hx : a.eval x = xv) (hxl : StrsAt 0 w xv l) (hbase : base ≤ w.heap.size)
    (h : ∀ a' cap' w', w'.ownsRow base 9 1 (.slice a' l.length cap') l.length (l.map sv) → w.grownBy w' (some g0) → wpList Tryz.prog ops Q rest (a.put o.dst (.slice a' l.length cap')) w') : wpList Tryz.prog ops Q (o :: rest) a w :=
  wpList_plain hgd fun K hK => by
    obtain ⟨a', cap', w', hr, h2, h3⟩ := run_append_strs w o.type base g0 hown xv l hxl hbase
    unfold Oper.wp execOp
    simp only [ho, resolve, invoke, builtin, Sem.run_bind, Sem.run_pure, Result.andThen_ok, List.map_toArray, List.map_cons, List.map_nil, hs, hx, hr]
    exact hK _ _ (h a' cap' w' h2 h3)

/-- The same at a step of a region that draws its order. -/
theorem step_append_strs {ops : Array Oper} {o : Oper} {a : Act} {w : World} {K : Act → World → Prop} {Q : Exit → Act → World → Prop} {E : Prop} (hgd : o.guard = none) (s x : Operand)
    (ho : o.op = .call { callee := .builtin .append, args := #[s, x], argTypes := #[23, 23] })
    (base g0 : Nat) (hs : a.eval s = .slice (some ⟨g0, 0, none⟩) 0 0) (hown : w.ownsRow base 9 1 (.slice (some ⟨g0, 0, none⟩) 0 0) 0 []) (xv : Value) (l : List (List UInt8)) (hx : a.eval x = xv) (hxl : StrsAt 0 w xv l) (hbase : base ≤ w.heap.size)
    (h : ∀ a' cap' w', w'.ownsRow base 9 1 (.slice a' l.length cap') l.length (l.map sv) → w.grownBy w' (some g0) → K (a.put o.dst (.slice a' l.length cap')) w') :
    if Region.wanted o (yielded ops a.tmps) = true then Oper.wp Tryz.prog o a w K Q else E := by
  have hw : Region.wanted o (yielded ops a.tmps) = true := by simp [Region.wanted, hgd]
  rw [if_pos hw]
  obtain ⟨a', cap', w', hr, h2, h3⟩ := run_append_strs w o.type base g0 hown xv l hxl hbase
  unfold Oper.wp execOp
  simp only [ho, resolve, invoke, builtin, Sem.run_bind, Sem.run_pure, Result.andThen_ok, List.map_toArray, List.map_cons, List.map_nil, hs, hx, hr]
  exact h a' cap' w' h2 h3

/-- A row of strings of the call's own, as a slice of strings that lies from base on. -/
theorem strs_own_lo {w : World} {base : Nat} {v : Value} {L : List (List UInt8)} (h : w.ownsRow base 9 1 v L.length (L.map sv)) (hl : L.length ≤ bigN) (he : ∀ x ∈ L, x.length ≤ bigN) : StrsAt base w v L := by
  rcases Nat.eq_zero_or_pos L.length with h0 | h0
  · obtain ⟨-, h2⟩ := h
    rcases h2 with ⟨hv, -⟩ | ⟨g, cap, cur, hv, -, -, hc, -⟩
    · exact ⟨none, 0, 0, 0, by rw [hv, h0], hl, by omega, fun h1 => by omega, fun j hj => by omega⟩
    · exact ⟨_, cap, 0, 0, hv, hl, hc, fun h1 => by omega, fun j hj => by omega⟩
  · obtain ⟨g, cap, hv, hg, hh, hc, -, -⟩ := own_open h h0
    obtain ⟨g', cap', hv', -, -, hcl⟩ := own_strs h h0
    rw [hv] at hv'
    injection hv' with e1 e2 e3
    injection e1 with e1
    injection e1 with e1
    subst e1
    exact ⟨_, cap, g, 0, hv, hl, hc, fun _ => ⟨rfl, hg, hh⟩, fun j hj => ⟨by rw [Nat.zero_add]; exact hcl j hj, he _ (List.getElem_mem hj)⟩⟩
theorem StrsAt.lo {lo : Nat} {w : World} {v : Value} {l : List (List UInt8)} (h : StrsAt lo w v l) : StrsAt 0 w v l := by
  obtain ⟨a, cap, b, off, hv, hl, hc, ha, hcl⟩ := h
  exact ⟨a, cap, b, off, hv, hl, hc, fun h0 => ⟨(ha h0).1, Nat.zero_le _, (ha h0).2.2⟩, hcl⟩
end Go.Proofs.YtahiahboneljaaaGreatDoor
namespace Go.Proofs.YtahiahboneljaaaGreatDoor
open Go.RowKit

theorem own_empty {W : World} {base g : Nat} (h : W.heap[g]? = some (.cells #[] 9)) (hb : base ≤ g) : W.ownsRow base 9 1 (.slice (some ⟨g, 0, none⟩) 0 0) 0 [] :=
  ⟨rfl, .inr ⟨g, 0, #[], rfl, hb, h, by omega, by unfold maxLen; omega, rfl, rfl⟩⟩
theorem own_emptyA (W : World) : (W.alloc (.cells #[] 9)).drew.ownsRow W.heap.size 9 1 (.slice (some ⟨W.heap.size, 0, none⟩) 0 0) 0 [] := own_empty (W := (W.alloc (.cells #[] 9)).drew) (new_block W _) (Nat.le_refl _)
theorem own_emptyB (W : World) (o : Obj) : ((W.alloc (.cells #[] 9)).alloc o).drew.ownsRow W.heap.size 9 1 (.slice (some ⟨W.heap.size, 0, none⟩) 0 0) 0 [] := own_empty (W := ((W.alloc (.cells #[] 9)).alloc o).drew) (alloc_block (new_block W _) o) (Nat.le_refl _)
theorem own_emptyC (W : World) (o : Obj) : ((W.alloc o).alloc (.cells #[] 9)).drew.ownsRow W.heap.size 9 1 (.slice (some ⟨W.heap.size + 1, 0, none⟩) 0 0) 0 [] := own_empty (W := ((W.alloc o).alloc (.cells #[] 9)).drew) (by
  have := new_block (W.alloc o) (.cells #[] 9)
  rwa [show (W.alloc o).heap.size = W.heap.size + 1 by simp] at this) (Nat.le_succ _)
theorem cell_newB (W : World) (o : Obj) (v : Value) (t : TypeId) : ((W.alloc o).alloc (.cells #[v] t)).drew.cell? ⟨W.heap.size + 1, 0, none⟩ = some v := by
  have := cell_new1 (W.alloc o) v t
  rwa [show (W.alloc o).heap.size = W.heap.size + 1 by simp] at this
theorem cell_newC (W : World) (o : Obj) (v : Value) (t : TypeId) : ((W.alloc (.cells #[v] t)).alloc o).drew.cell? ⟨W.heap.size, 0, none⟩ = some v := by
  rw [cell_of_block (w := ((W.alloc (.cells #[v] t)).alloc o).drew) (alloc_block (new_block W _) o)]; rfl
theorem own_ge {w : World} {base : Nat} {e : TypeId} {size n cap g m : Nat} {xs : List Value} (h : w.ownsRow base e size (.slice (some ⟨g, 0, none⟩) m cap) n xs) : base ≤ g := (h.lt g rfl).1
theorem pathP_len {beg l u d : List UInt8} (h : pathP beg l = some (u, d)) : u.length ≤ 8 := by
  unfold pathP at h
  split at h
  · cases hp : pathOf (l.drop beg.length) with
    | none => rw [hp] at h; cases h
    | some x =>
      rw [hp] at h
      have h1 : (if x.1 = [] then none else some x) = some (u, d) := h
      split at h1
      · cases h1
      · next hne =>
        injection h1 with h1
        subst h1
        rw [path_same] at hp
        unfold pathText at hp
        split at hp
        · injection hp with hp; injection hp with h2 _; exact absurd h2.symm hne
        · split at hp
          · cases hp
          · unfold addrText at hp
            split at hp
            · split at hp
              · next hg =>
                injection hp with hp
                injection hp with h2 _
                subst h2
                simp only [Bool.and_eq_true] at hg
                exact (isName_len hg.1).2
              · cases hp
            · cases hp
  · cases h
theorem new_block' (w : World) (o : Obj) (n : Nat) (h : n = w.heap.size) : (w.alloc o).heap[n]? = some o := by subst h; exact new_block w o
theorem grown_cell {w w' : World} {g : Nat} (h : w.grownBy w' (some g)) {p : Addr} {v : Value} (hc : w.cell? p = some v) (hp : p.block ≠ g) : w'.cell? p = some v := by
  rw [World.cell?_of_block (h.block p.block (lt_of_cell hc) (fun e => hp (by injection e)))]; exact hc
theorem grown_cell2 {w w' : World} {r : Option Nat} (h : w.grownBy w' r) {p : Addr} {v : Value} (hc : w.cell? p = some v) (hp : some p.block ≠ r) : w'.cell? p = some v := by
  rw [World.cell?_of_block (h.block p.block (lt_of_cell hc) hp)]; exact hc
theorem cell_set4 {w : World} {b : Nat} {x0 x1 x2 x3 : Value} {p : Addr} {v : Value} (h : w.cell? p = some v) (hp : p.block ≠ b) :
    ((((w.setCell ⟨b, 0, none⟩ x0).setCell ⟨b, 1, none⟩ x1).setCell ⟨b, 2, none⟩ x2).setCell ⟨b, 3, none⟩ x3).cell? p = some v := by
  have hb : w.heap[p.block]? = w.heap[p.block]? := rfl
  rw [World.cell?_of_block (w := w)]
  · exact h
  · rw [Below.heap_setCell _ _ _ _ hp, Below.heap_setCell _ _ _ _ hp, Below.heap_setCell _ _ _ _ hp, Below.heap_setCell _ _ _ _ hp]
theorem kept_app {a w w' : World} {g : Nat} (k : Kept [] a w) (h : w.grownBy w' (some g)) (hg : a.heap.size ≤ g) : Kept [] a w' :=
  k.grown h (fun x e hx => by injection e with e; omega)
theorem grown_block {w w' : World} {r : Option Nat} (h : w.grownBy w' r) {b : Nat} {o : Obj} (hc : w.heap[b]? = some o) (hp : some b ≠ r) : w'.heap[b]? = some o := by
  rw [h.block b (lt_of_block hc) hp]; exact hc
theorem own_ne {w : World} {base : Nat} {e : TypeId} {size : Nat} {v : Value} {n : Nat} {xs : List Value} (h : w.ownsRow base e size v n xs) {b : Nat} (hb : b < base) : some b ≠ v.ownBlock := fun e => by
  have := (h.lt b e.symm).1; omega

set_option maxHeartbeats 4000000 in
theorem sTo_app (v uv : Value) (stage : Int) (user : List UInt8) (tos : List (List UInt8)) (text : List UInt8) (us : List Usr) (dom : List UInt8) (line : ByteArray) (w : World) (ta : Option Addr) (tcap : Nat) (u d : List UInt8) (k : Nat)
    (HST : Hid (StrsAt 0 w (Value.slice ta tos.length tcap) tos)) (HUU : Hid (UsersAt 0 w uv us)) (hul : user.length ≤ bigN) (hl : line.size ≤ bigN) (HPP : Hid (pathP toW line.data.toList = some (u, d)))
    (b2 : ((bs d).toList == (bs dom).toList) = true) (HZ1 : Hid (findZ us u = (k : Int))) (_hkn : ¬ (k : Int) < 0) (HH : Hid (hasN tos u = false)) (h33' : ¬ (3 : Int) ≤ tos.length)
    (HG : Hid ((stage != 3) = false ∨ ((stage != 3) = true ∧ (stage != 4) = false))) (hv : v = .agg #[.int .i64 stage, .string (bs user), .slice ta tos.length tcap, .string (bs text)]) :
    Calls Tryz.prog 59 #[v, uv, .string (bs dom), .string line] w (LineRes w v (⟨4, user, tos ++ [u], []⟩, 250)) := by
  subst hv
  rcases HG.out with g3 | ⟨g3, g4⟩
  all_goals
    go_enter Tryz.func59, Tryz.ntmps59
    go_wp2_with fail
    refine (sToBeg_any line _ hl).mono ?_
    rintro e w1 ⟨rfl, hK⟩
    obtain ⟨hA, hZ, hk, hz⟩ := two_blocks hK
    have hy := lt_of_block hA
    have a0 := cell_of_block hA 0
    have a1 := cell_of_block hA 1
    have a2 := cell_of_block hA 2
    have a3 := cell_of_block hA 3
    have z0 := cell_of_block hZ 0
    have z1 := cell_of_block hZ 1
    have z2 := cell_of_block hZ 2
    have z3 := cell_of_block hZ 3
    have g0 := frozen_of_block hA 0
    have g1 := frozen_of_block hA 1
    have g2 := frozen_of_block hA 2
    have g3 := frozen_of_block hA 3
    have f0 := frozen_of_block hZ 0
    have f1 := frozen_of_block hZ 1
    have f2 := frozen_of_block hZ 2
    have f3 := frozen_of_block hZ 3
    simp at a0 a1 a2 a3 z0 z1 z2 z3
    have HK := hid hk
    have HA := hid hA
    have HZ := hid hZ
    clear hA hZ hK hk
    rw [HPP.out, show pathRes (some (u, d)) = .tuple #[.agg #[.string (bs u), .string (bs d)], .bool true] from rfl]
    go_wp2_with fail
    refine (l14Find_any 0 uv us (bs u) _ (HUU.out.kept0 (HK.out.alloc _))).mono ?_
    rintro e w2 ⟨rfl, rfl⟩
    rw [bs_toList, HZ1.out]
    go_wp2_with fail
    refine (l21Has_any 0 _ tos (bs u) _ (HST.out.kept0 (HK.out.alloc _))).mono ?_
    rintro e w2 ⟨rfl, rfl⟩
    rw [bs_toList, HH.out]
    go_wp2
    have hB := new_block w1 (Obj.cells #[.string (bs u), .string (bs d)] 91)
    refine gen_world (fun W => W.heap[w.heap.size]? = some (Obj.cells #[.int .i64 stage, .string (bs user), .slice ta tos.length tcap, .string (bs text)] 25) ∧ W.heap[w.heap.size + 1]? = some (Obj.cells #[.int .i64 0, .string ⟨#[]⟩, .slice none 0 0, .string ⟨#[]⟩] 25) ∧
      W.heap[w1.heap.size]? = some (Obj.cells #[.string (bs u), .string (bs d)] 91) ∧ Kept [] w W ∧ w1.heap.size < W.heap.size) ⟨alloc_block HA.out _, alloc_block HZ.out _, hB, HK.out.alloc _, by simp⟩ ?_
    rintro W ⟨hA, hZ, hB, hK, hlt⟩
    clear a0 a1 a2 a3 z0 z1 z2 z3 f0 f1 f2 f3 g0 g1 g2 HA HZ HK b2 HZ1 _hkn HH
    have a1 := cell_of_block hA 1
    have a2 := cell_of_block hA 2
    have b0 := cell_of_block hB 0
    simp at a1 a2 b0
    have hlA := lt_of_block hA
    have hlZ := lt_of_block hZ
    have HA := hid hA
    have HZ := hid hZ
    have HB := hid hB
    have HK := hid hK
    have HS := hid (HST.out.kept0 hK)
    clear hA hZ hB hK
    have CK : Hid (∀ W', Kept [w.heap.size + 1] W W' → W'.cell? ⟨w.heap.size, 1, none⟩ = some (.string (bs user)) ∧ W'.cell? ⟨w.heap.size, 2, none⟩ = some (.slice ta tos.length tcap) ∧ W'.cell? ⟨w1.heap.size, 0, none⟩ = some (.string (bs u))) := fun W' hW =>
      ⟨hW.cell_some a1 (by simp), hW.cell_some a2 (by simp), hW.cell_some b0 (by simp; omega)⟩
    go_region_held3 (fun w' => w'.cell? ⟨w.heap.size, 1, none⟩ = some (.string (bs user)) ∧ w'.cell? ⟨w.heap.size, 2, none⟩ = some (.slice ta tos.length tcap) ∧ w'.cell? ⟨w1.heap.size, 0, none⟩ = some (.string (bs u)))
      (first
        | exact CK.out _ (by repeat' with_reducible first | exact hK5.nil | exact hK4.nil | exact Kept.refl _ _ | refine Kept.setCell ?_ _ _ (by simp) | refine Kept.drew ?_ | refine Kept.alloc ?_ _))
      (first
        | (refine step_append_strs (by rfl) _ _ (by rfl) W.heap.size _ (by rfl) ?_ _ tos (by rfl) ?_ ?_ ?_
           · first | exact own_emptyA W | exact own_emptyB W _ | exact own_emptyC W _
           · refine HS.out.kept0 ?_
             repeat' with_reducible first | exact Kept.refl _ _ | refine Kept.alloc ?_ _ | refine Kept.drew ?_
           · first | (simp; done) | (simp; omega)
           intro a1 c1 w4 hown4 hg4
           have hK4 : Kept [] W w4 := by
             refine kept_app ?_ hg4 ?_
             · repeat' with_reducible first | exact Kept.refl _ _ | refine Kept.alloc ?_ _ | refine Kept.drew ?_
             · first | omega | (simp; done) | (simp; omega))
        | (refine step_append_str (by rfl) _ _ (by rfl) W.heap.size (.slice a1 tos.length c1) tos.length (tos.map sv) (by rfl) ?_ _ (bs u) (by rfl) ?_ ?_ ?_ ?_
           · first | exact hown4 | exact hown4.alloc _ | exact (hown4.alloc _).drew
           · first | exact cell_new1 _ _ _ | (refine grown_cell hg4 (cell_newB W _ _ _) ?_; simp) | (refine grown_cell hg4 (cell_newC W _ _ _) ?_; simp)
           · unfold bigN; omega
           · have := hg4.size; simp at this ⊢; omega
           intro g5 c5 w5 hown5 hg5
           have hK5 : Kept [] W w5 := by
             refine Kept.own (base := W.heap.size) (bs := []) ?_ (v := .slice a1 tos.length c1) (n := tos.length) (xs := tos.map sv) (e := 9) (size := 1) ?_ hg5 (Nat.le_refl _)
             · repeat' with_reducible first | exact hK4 | exact Kept.refl _ _ | refine Kept.alloc ?_ _ | refine Kept.drew ?_
             · first | exact hown4 | exact hown4.alloc _ | exact (hown4.alloc _).drew
           have hZ5 := hK5.same HZ.out (by simp)
           have z0 := cell_of_block hZ5 0
           have z1 := cell_of_block hZ5 1
           have z2 := cell_of_block hZ5 2
           have z3 := cell_of_block hZ5 3
           have f0 := frozen_of_block hZ5 0
           have f1 := frozen_of_block hZ5 1
           have f2 := frozen_of_block hZ5 2
           have f3 := frozen_of_block hZ5 3
           simp at z0 z1 z2 z3
           have HZ5 := hid hZ5
           clear hZ5))
    all_goals
      go_wp2
      refine bodyPost_ret (v := .tuple #[.agg #[.int .i64 4, .string (bs user), .slice (some ⟨g5, 0, none⟩) (tos.length + 1) c5, .string ⟨#[]⟩], .int .i64 250]) (by simp [results, Tryz.results59, go_sem, z0, z1, z2, z3]) rfl ?_
      have hlen : (tos ++ [u]).length = tos.length + 1 := by simp
      have hS5 : StrsAt W.heap.size w5 (.slice (some ⟨g5, 0, none⟩) (tos.length + 1) c5) (tos ++ [u]) := by
        refine strs_own_lo (base := W.heap.size) (L := tos ++ [u]) ?_ (by rw [hlen]; unfold bigN; omega) ?_
        · rw [hlen, List.map_append]; exact hown5
        · intro x hx
          rcases List.mem_append.1 hx with hx | hx
          · obtain ⟨j, hj, rfl⟩ := List.getElem_of_mem hx
            obtain ⟨a', cap', b', off', -, -, -, -, hc⟩ := HST.out
            exact (hc j hj).2
          · rw [List.mem_singleton.1 hx]
            have := pathP_len HPP.out; unfold bigN; omega
      have hgz : w.heap.size + 1 < W.heap.size := hlZ
      have hgg := own_ge hown5
      refine ⟨_, rfl, ⟨.slice (some ⟨g5, 0, none⟩) (tos.length + 1) c5, rfl, (hS5.kept (bs := [w.heap.size + 1]) ?_ ?_).lo, hul, Nat.zero_le _⟩, ?_, fun R hR _ => .inl (fun e => ?_)⟩
      · (repeat' with_reducible first | exact Kept.refl _ _ | refine Kept.setCell ?_ _ _ (by simp))
      · intro b hb; rw [List.mem_singleton.1 hb]; exact .inl hgz
      · have hk := HK.out.trans hK5
        (repeat' with_reducible first | exact hk | refine Kept.setCell ?_ _ _ (by simp))
      · simp [subTo, Value.ownBlock] at e; omega
end Go.Proofs.YtahiahboneljaaaGreatDoor
namespace Go.Proofs.YtahiahboneljaaaGreatDoor
open Go.RowKit

theorem find_neg {us : List Usr} {u : List UInt8} (h : usrFind us u = none) : findZ us u = -1 := by
  rcases findZ_cases us u with ⟨h1, -⟩ | ⟨k, hk, h1, h2⟩
  · exact h1
  · rw [h] at h2; cases h2
theorem find_pos {us : List Usr} {u : List UInt8} {y : Usr} (h : usrFind us u = some y) : ∃ k : Nat, findZ us u = (k : Int) := by
  rcases findZ_cases us u with ⟨-, h1⟩ | ⟨k, hk, h1, h2⟩
  · rw [h] at h1; cases h1
  · exact ⟨k, h1⟩

set_option maxHeartbeats 4000000 in
theorem sTo_any (v uv : Value) (s : Sb) (us : List Usr) (dom : List UInt8) (line : ByteArray) (w : World) (hu : SubAt 0 w v s) (huu : UsersAt 0 w uv us) (hl : line.size ≤ bigN) (h3 : s.to.length ≤ 3) (hx : s.stage = 3 ∨ s.stage = 4 → s.text = []) :
    Calls Tryz.prog 59 #[v, uv, .string (bs dom), .string line] w (LineRes w v (toP s us dom line.data.toList)) := by
  obtain ⟨tv, rfl, hst, hul, htl⟩ := hu
  obtain ⟨ta, tcap, rfl⟩ := hst.form
  obtain ⟨stage, user, tos, text⟩ := s
  dsimp only at hst hul htl h3 hx ⊢
  have HST := hid hst
  have HUU := hid huu
  clear hst huu
  by_cases h1 : stage = 3 ∨ stage = 4
  · have htx := hid (hx h1)
    have hm : ∀ x, pathP toW line.data.toList = x → toP ⟨stage, user, tos, text⟩ us dom line.data.toList = match x with
        | none => (⟨stage, user, tos, text⟩, 501)
        | some (u, d) => if (usrFind us u).isSome = true ∧ d = dom then
            (if hasN tos u = true then (⟨stage, user, tos, text⟩, 250) else if 3 ≤ tos.length then (⟨stage, user, tos, text⟩, 452) else (⟨4, user, tos ++ [u], text⟩, 250)) else (⟨stage, user, tos, text⟩, 550) := fun x hx => by
      unfold toP; rw [if_neg (by dsimp only; omega), hx]; cases x <;> rfl
    have HM := hid hm
    have hg : (stage != 3) = false ∨ ((stage != 3) = true ∧ (stage != 4) = false) := by rcases h1 with h | h <;> subst h <;> simp
    have HG := hid hg
    clear hm hx hg h1
    cases hpp : pathP toW line.data.toList with
    | none =>
      have HR := hid (HM.out none hpp)
      have HPP := hid hpp
      clear hpp
      rcases HG.out with g3 | ⟨g3, g4⟩
      all_goals
        go_enter Tryz.func59, Tryz.ntmps59
        go_wp2_with fail
        refine (sToBeg_any line _ hl).mono ?_
        rintro e w1 ⟨rfl, hK⟩
        obtain ⟨hA, hZ, hk, hz⟩ := two_blocks hK
        have hy := lt_of_block hA
        have a0 := cell_of_block hA 0
        have a1 := cell_of_block hA 1
        have a2 := cell_of_block hA 2
        have a3 := cell_of_block hA 3
        have z0 := cell_of_block hZ 0
        have z1 := cell_of_block hZ 1
        have z2 := cell_of_block hZ 2
        have z3 := cell_of_block hZ 3
        have g0 := frozen_of_block hA 0
        have g1 := frozen_of_block hA 1
        have g2 := frozen_of_block hA 2
        have g3 := frozen_of_block hA 3
        have f0 := frozen_of_block hZ 0
        have f1 := frozen_of_block hZ 1
        have f2 := frozen_of_block hZ 2
        have f3 := frozen_of_block hZ 3
        simp at a0 a1 a2 a3 z0 z1 z2 z3
        have HK := hid hk
        have HA := hid hA
        have HZ := hid hZ
        clear hA hZ hK hk
        rw [HPP.out, show pathRes none = .tuple #[.agg #[.string ⟨#[]⟩, .string ⟨#[]⟩], .bool false] from rfl]
        go_wp2
        rw [HR.out]
        refine bodyPost_ret (v := .tuple #[.agg #[.int .i64 stage, .string (bs user), .slice ta tos.length tcap, .string (bs text)], .int .i64 501]) (by simp [results, Tryz.results59, go_sem, z0, z1, z2, z3, hz]) rfl ⟨_, rfl, ⟨_, rfl, HST.out.kept0 ?_, hul, htl⟩, ?_, fun R _ h => h.elim .inl (fun e => .inr (List.eq_nil_of_length_eq_zero e))⟩
        all_goals (repeat' with_reducible first | exact HK.out | refine Kept.setCell ?_ _ _ (by simp) | refine Kept.drewN ?_ _ | refine Kept.drew ?_ | refine Kept.alloc ?_ _)
    | some x =>
      obtain ⟨u, d⟩ := x
      have hr := HM.out _ hpp
      dsimp only at hr
      have HPP := hid hpp
      clear hpp
      have b2 := bs_beq d dom
      by_cases e2 : d = dom
      · rw [decide_eq_true e2] at b2
        cases hfd : usrFind us u with
        | none =>
          rw [if_neg (by rw [hfd]; simp)] at hr
          have HZ1 := hid (find_neg hfd)
          have HR := hid hr
          clear hr e2 hfd
          rcases HG.out with g3 | ⟨g3, g4⟩
          all_goals
            go_enter Tryz.func59, Tryz.ntmps59
            go_wp2_with fail
            refine (sToBeg_any line _ hl).mono ?_
            rintro e w1 ⟨rfl, hK⟩
            obtain ⟨hA, hZ, hk, hz⟩ := two_blocks hK
            have hy := lt_of_block hA
            have a0 := cell_of_block hA 0
            have a1 := cell_of_block hA 1
            have a2 := cell_of_block hA 2
            have a3 := cell_of_block hA 3
            have z0 := cell_of_block hZ 0
            have z1 := cell_of_block hZ 1
            have z2 := cell_of_block hZ 2
            have z3 := cell_of_block hZ 3
            have g0 := frozen_of_block hA 0
            have g1 := frozen_of_block hA 1
            have g2 := frozen_of_block hA 2
            have g3 := frozen_of_block hA 3
            have f0 := frozen_of_block hZ 0
            have f1 := frozen_of_block hZ 1
            have f2 := frozen_of_block hZ 2
            have f3 := frozen_of_block hZ 3
            simp at a0 a1 a2 a3 z0 z1 z2 z3
            have HK := hid hk
            have HA := hid hA
            have HZ := hid hZ
            clear hA hZ hK hk
            rw [HPP.out, show pathRes (some (u, d)) = .tuple #[.agg #[.string (bs u), .string (bs d)], .bool true] from rfl]
            go_wp2_with fail
            refine (l14Find_any 0 uv us (bs u) _ (HUU.out.kept0 (HK.out.alloc _))).mono ?_
            rintro e w2 ⟨rfl, rfl⟩
            rw [bs_toList, HZ1.out]
            go_wp2
            rw [HR.out]
            refine bodyPost_ret (v := .tuple #[.agg #[.int .i64 stage, .string (bs user), .slice ta tos.length tcap, .string (bs text)], .int .i64 550]) (by simp [results, Tryz.results59, go_sem, z0, z1, z2, z3, hz]) rfl ⟨_, rfl, ⟨_, rfl, HST.out.kept0 ?_, hul, htl⟩, ?_, fun R _ h => h.elim .inl (fun e => .inr (List.eq_nil_of_length_eq_zero e))⟩
            all_goals (repeat' with_reducible first | exact HK.out | refine Kept.setCell ?_ _ _ (by simp) | refine Kept.drewN ?_ _ | refine Kept.drew ?_ | refine Kept.alloc ?_ _)
        | some y =>
          rw [if_pos ⟨by rw [hfd]; rfl, e2⟩] at hr
          obtain ⟨k, hk⟩ := find_pos hfd
          have HZ1 := hid hk
          have hkn : ¬ (k : Int) < 0 := by omega
          clear e2 hfd hk
          cases hh : hasN tos u with
          | true =>
            rw [if_pos hh] at hr
            have HH := hid hh
            have HR := hid hr
            clear hr hh
            rcases HG.out with g3 | ⟨g3, g4⟩
            all_goals
              go_enter Tryz.func59, Tryz.ntmps59
              go_wp2_with fail
              refine (sToBeg_any line _ hl).mono ?_
              rintro e w1 ⟨rfl, hK⟩
              obtain ⟨hA, hZ, hk, hz⟩ := two_blocks hK
              have hy := lt_of_block hA
              have a0 := cell_of_block hA 0
              have a1 := cell_of_block hA 1
              have a2 := cell_of_block hA 2
              have a3 := cell_of_block hA 3
              have z0 := cell_of_block hZ 0
              have z1 := cell_of_block hZ 1
              have z2 := cell_of_block hZ 2
              have z3 := cell_of_block hZ 3
              have g0 := frozen_of_block hA 0
              have g1 := frozen_of_block hA 1
              have g2 := frozen_of_block hA 2
              have g3 := frozen_of_block hA 3
              have f0 := frozen_of_block hZ 0
              have f1 := frozen_of_block hZ 1
              have f2 := frozen_of_block hZ 2
              have f3 := frozen_of_block hZ 3
              simp at a0 a1 a2 a3 z0 z1 z2 z3
              have HK := hid hk
              have HA := hid hA
              have HZ := hid hZ
              clear hA hZ hK hk
              rw [HPP.out, show pathRes (some (u, d)) = .tuple #[.agg #[.string (bs u), .string (bs d)], .bool true] from rfl]
              go_wp2_with fail
              refine (l14Find_any 0 uv us (bs u) _ (HUU.out.kept0 (HK.out.alloc _))).mono ?_
              rintro e w2 ⟨rfl, rfl⟩
              rw [bs_toList, HZ1.out]
              go_wp2_with fail
              refine (l21Has_any 0 _ tos (bs u) _ (HST.out.kept0 (HK.out.alloc _))).mono ?_
              rintro e w2 ⟨rfl, rfl⟩
              rw [bs_toList, HH.out]
              go_wp2
              rw [HR.out]
              refine bodyPost_ret (v := .tuple #[.agg #[.int .i64 stage, .string (bs user), .slice ta tos.length tcap, .string (bs text)], .int .i64 250]) (by simp [results, Tryz.results59, go_sem, z0, z1, z2, z3, hz]) rfl ⟨_, rfl, ⟨_, rfl, HST.out.kept0 ?_, hul, htl⟩, ?_, fun R _ h => h.elim .inl (fun e => .inr (List.eq_nil_of_length_eq_zero e))⟩
              all_goals (repeat' with_reducible first | exact HK.out | refine Kept.setCell ?_ _ _ (by simp) | refine Kept.drewN ?_ _ | refine Kept.drew ?_ | refine Kept.alloc ?_ _)
          | false =>
            rw [if_neg (by rw [hh]; simp)] at hr
            have HH := hid hh
            by_cases h33 : 3 ≤ tos.length
            · rw [if_pos h33] at hr
              have HR := hid hr
              have h33' : (3 : Int) ≤ tos.length := by omega
              clear hr hh h33
              rcases HG.out with g3 | ⟨g3, g4⟩
              all_goals
                go_enter Tryz.func59, Tryz.ntmps59
                go_wp2_with fail
                refine (sToBeg_any line _ hl).mono ?_
                rintro e w1 ⟨rfl, hK⟩
                obtain ⟨hA, hZ, hk, hz⟩ := two_blocks hK
                have hy := lt_of_block hA
                have a0 := cell_of_block hA 0
                have a1 := cell_of_block hA 1
                have a2 := cell_of_block hA 2
                have a3 := cell_of_block hA 3
                have z0 := cell_of_block hZ 0
                have z1 := cell_of_block hZ 1
                have z2 := cell_of_block hZ 2
                have z3 := cell_of_block hZ 3
                have g0 := frozen_of_block hA 0
                have g1 := frozen_of_block hA 1
                have g2 := frozen_of_block hA 2
                have g3 := frozen_of_block hA 3
                have f0 := frozen_of_block hZ 0
                have f1 := frozen_of_block hZ 1
                have f2 := frozen_of_block hZ 2
                have f3 := frozen_of_block hZ 3
                simp at a0 a1 a2 a3 z0 z1 z2 z3
                have HK := hid hk
                have HA := hid hA
                have HZ := hid hZ
                clear hA hZ hK hk
                rw [HPP.out, show pathRes (some (u, d)) = .tuple #[.agg #[.string (bs u), .string (bs d)], .bool true] from rfl]
                go_wp2_with fail
                refine (l14Find_any 0 uv us (bs u) _ (HUU.out.kept0 (HK.out.alloc _))).mono ?_
                rintro e w2 ⟨rfl, rfl⟩
                rw [bs_toList, HZ1.out]
                go_wp2_with fail
                refine (l21Has_any 0 _ tos (bs u) _ (HST.out.kept0 (HK.out.alloc _))).mono ?_
                rintro e w2 ⟨rfl, rfl⟩
                rw [bs_toList, HH.out]
                go_wp2
                rw [HR.out]
                refine bodyPost_ret (v := .tuple #[.agg #[.int .i64 stage, .string (bs user), .slice ta tos.length tcap, .string (bs text)], .int .i64 452]) (by simp [results, Tryz.results59, go_sem, z0, z1, z2, z3, hz]) rfl ⟨_, rfl, ⟨_, rfl, HST.out.kept0 ?_, hul, htl⟩, ?_, fun R _ h => h.elim .inl (fun e => .inr (List.eq_nil_of_length_eq_zero e))⟩
                all_goals (repeat' with_reducible first | exact HK.out | refine Kept.setCell ?_ _ _ (by simp) | refine Kept.drewN ?_ _ | refine Kept.drew ?_ | refine Kept.alloc ?_ _)
            · rw [if_neg h33] at hr
              have h33' : ¬ (3 : Int) ≤ tos.length := by omega
              rw [hr, show (⟨4, user, tos ++ [u], text⟩ : Sb) = ⟨4, user, tos ++ [u], []⟩ by rw [htx.out]]
              exact sTo_app _ uv stage user tos text us dom line w ta tcap u d k HST HUU hul hl HPP b2 HZ1 hkn HH h33' HG rfl
      · rw [decide_eq_false e2] at b2
        rw [if_neg (fun e => e2 e.2)] at hr
        have HR := hid hr
        clear hr e2
        rcases HG.out with g3 | ⟨g3, g4⟩
        all_goals
          go_enter Tryz.func59, Tryz.ntmps59
          go_wp2_with fail
          refine (sToBeg_any line _ hl).mono ?_
          rintro e w1 ⟨rfl, hK⟩
          obtain ⟨hA, hZ, hk, hz⟩ := two_blocks hK
          have hy := lt_of_block hA
          have a0 := cell_of_block hA 0
          have a1 := cell_of_block hA 1
          have a2 := cell_of_block hA 2
          have a3 := cell_of_block hA 3
          have z0 := cell_of_block hZ 0
          have z1 := cell_of_block hZ 1
          have z2 := cell_of_block hZ 2
          have z3 := cell_of_block hZ 3
          have g0 := frozen_of_block hA 0
          have g1 := frozen_of_block hA 1
          have g2 := frozen_of_block hA 2
          have g3 := frozen_of_block hA 3
          have f0 := frozen_of_block hZ 0
          have f1 := frozen_of_block hZ 1
          have f2 := frozen_of_block hZ 2
          have f3 := frozen_of_block hZ 3
          simp at a0 a1 a2 a3 z0 z1 z2 z3
          have HK := hid hk
          have HA := hid hA
          have HZ := hid hZ
          clear hA hZ hK hk
          rw [HPP.out, show pathRes (some (u, d)) = .tuple #[.agg #[.string (bs u), .string (bs d)], .bool true] from rfl]
          go_wp2
          rw [HR.out]
          refine bodyPost_ret (v := .tuple #[.agg #[.int .i64 stage, .string (bs user), .slice ta tos.length tcap, .string (bs text)], .int .i64 550]) (by simp [results, Tryz.results59, go_sem, z0, z1, z2, z3, hz]) rfl ⟨_, rfl, ⟨_, rfl, HST.out.kept0 ?_, hul, htl⟩, ?_, fun R _ h => h.elim .inl (fun e => .inr (List.eq_nil_of_length_eq_zero e))⟩
          all_goals (repeat' with_reducible first | exact HK.out | refine Kept.setCell ?_ _ _ (by simp) | refine Kept.drewN ?_ _ | refine Kept.drew ?_ | refine Kept.alloc ?_ _)
  · have g3 : (stage != 3) = true := by simp; omega
    have g4 : (stage != 4) = true := by simp; omega
    obtain ⟨pu, pd, pb, hpr⟩ := pathRes_form (pathP toW line.data.toList)
    have HPR := hid hpr
    have hr : toP ⟨stage, user, tos, text⟩ us dom line.data.toList = (⟨stage, user, tos, text⟩, 503) := by unfold toP; rw [if_pos (by dsimp only; omega)]
    rw [hr]
    clear hr hpr h1 hx
    go_enter Tryz.func59, Tryz.ntmps59
    go_wp2_with fail
    refine (sToBeg_any line _ hl).mono ?_
    rintro e w1 ⟨rfl, hK⟩
    obtain ⟨hA, hZ, hk, hz⟩ := two_blocks hK
    have hy := lt_of_block hA
    have a0 := cell_of_block hA 0
    have a1 := cell_of_block hA 1
    have a2 := cell_of_block hA 2
    have a3 := cell_of_block hA 3
    have z0 := cell_of_block hZ 0
    have z1 := cell_of_block hZ 1
    have z2 := cell_of_block hZ 2
    have z3 := cell_of_block hZ 3
    have g0 := frozen_of_block hA 0
    have g1 := frozen_of_block hA 1
    have g2 := frozen_of_block hA 2
    have g3 := frozen_of_block hA 3
    have f0 := frozen_of_block hZ 0
    have f1 := frozen_of_block hZ 1
    have f2 := frozen_of_block hZ 2
    have f3 := frozen_of_block hZ 3
    simp at a0 a1 a2 a3 z0 z1 z2 z3
    have HK := hid hk
    have HA := hid hA
    have HZ := hid hZ
    clear hA hZ hK hk
    rw [HPR.out]
    go_wp2
    refine bodyPost_ret (v := .tuple #[.agg #[.int .i64 stage, .string (bs user), .slice ta tos.length tcap, .string (bs text)], .int .i64 503]) (by simp [results, Tryz.results59, go_sem, z0, z1, z2, z3, hz]) rfl ⟨_, rfl, ⟨_, rfl, HST.out.kept0 ?_, hul, htl⟩, ?_, fun R _ h => h.elim .inl (fun e => .inr (List.eq_nil_of_length_eq_zero e))⟩
    all_goals (repeat' with_reducible first | exact HK.out | refine Kept.setCell ?_ _ _ (by simp) | refine Kept.drewN ?_ _ | refine Kept.drew ?_ | refine Kept.alloc ?_ _)
end Go.Proofs.YtahiahboneljaaaGreatDoor
