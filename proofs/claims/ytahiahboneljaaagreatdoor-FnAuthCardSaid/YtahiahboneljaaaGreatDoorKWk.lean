/- The walks of SubmissionLine (spec). -/
import Derived.Test.YtahiahboneljaaaGreatDoorKWf
import Derived.Test.YtahiahboneljaaaGreatDoorKWi
import Derived.Test.YtahiahboneljaaaGreatDoorKP
import Derived.Test.YtahiahboneljaaaGreatDoorKWj
namespace Go.Proofs.YtahiahboneljaaaGreatDoor
open Go.RowKit

theorem sAuth_any (v uv wv : Value) (s : Sb) (us : List Usr) (ws : List (List UInt8)) (w : World) (hu : SubAt 0 w v s) (huu : UsersAt 0 w uv us) (hw : StrsAt 0 w wv ws) :
    Calls Tryz.prog 57 #[v, uv, wv] w (LineRes w v (authP s us ws)) := by
  obtain ⟨tv, rfl, hst, hul, htl⟩ := hu
  obtain ⟨ta, tcap, rfl⟩ := hst.form
  obtain ⟨stage, user, tos, text⟩ := s
  dsimp only at hst hul htl ⊢
  obtain ⟨a, cap, b, off, rfl, hl, hcap, ha, hc⟩ := hw
  have HST := hid hst
  have HUU := hid huu
  clear hst huu
  have K2 := hid (((Kept.refl [] w).alloc (Obj.cells #[.int .i64 stage, .string (bs user), .slice ta tos.length tcap, .string (bs text)] 25)).alloc (Obj.cells #[.int .i64 0, .string ⟨#[]⟩, .slice none 0 0, .string ⟨#[]⟩] 25))
  by_cases h1 : stage = 1
  · subst h1
    by_cases h3 : ws.length = 3
    · obtain ⟨rfl, -, hbw⟩ := ha (by omega)
      have hl1 : 1 < ws.length := by omega
      have hl2 : 2 < ws.length := by omega
      obtain ⟨hc1, hs1⟩ := hc 1 hl1
      obtain ⟨hc2, hs2⟩ := hc 2 hl2
      have hcap1 : (1 : Int) < ws.length := by omega
      have hcap2 : (2 : Int) < ws.length := by omega
      have hlen : (ws.length : Int) = 3 := by omega
      have hg1 : ws.getD 1 [] = ws[1] := by simp [List.getD, List.getElem?_eq_getElem hl1]
      have hg2 : ws.getD 2 [] = ws[2] := by simp [List.getD, List.getElem?_eq_getElem hl2]
      have hst : ((bs ws[1]).toList == [80, 76, 65, 73, 78]) = decide (ws[1] = plainW) := by
        have := str_eq (bs ws[1]) [80, 76, 65, 73, 78]
        rw [bs_toList] at this
        exact this
      by_cases hpw : ws[1] = plainW
      · have hr : authP ⟨1, user, tos, text⟩ us ws = match plainU us ws[2] with | none => (⟨1, user, tos, text⟩, 535) | some n => (⟨2, n, [], []⟩, 235) := by
          unfold authP; rw [if_neg (by simp), if_neg (by rw [hg1]; exact fun e => e ⟨h3, hpw⟩), hg2]
          cases plainU us ws[2] <;> rfl
        rw [decide_eq_true hpw] at hst
        have HC := hid hc
        generalize hy2 : ws[2] = y2 at hr hc2 hs2
        have HCL := hid (fun W (hK : Kept [] w W) => sUsersPlain_any uv us y2 W (HUU.out.kept0 hK) hs2)
        clear hc ha hy2 hg1 hg2 hpw h3
        cases hpu : plainU us y2 with
        | none =>
          rw [hpu] at hr HCL
          have HR := hid hr
          clear hr hpu
          go_enter Tryz.func57, Tryz.ntmps57
          go_wp2_with fail
          refine (HCL.out _ K2.out).mono ?_
          rintro e w1 ⟨rfl, hK⟩
          obtain ⟨hA, hZ, hk, hz⟩ := two_blocks hK
          have hy := lt_of_block hA
          have a0 := cell_of_block hA 0
          have a1 := cell_of_block hA 1
          have a2 := cell_of_block hA 2
          have a3 := cell_of_block hA 3
          have z0 := cell_of_block hZ 0
          have z1 := cell_of_block hZ 1
          have z2 := cell_of_block hZ 2
          have z3 := cell_of_block hZ 3
          have g0 := frozen_of_block hA 0
          have g1 := frozen_of_block hA 1
          have g2 := frozen_of_block hA 2
          have g3 := frozen_of_block hA 3
          have f0 := frozen_of_block hZ 0
          have f1 := frozen_of_block hZ 1
          have f2 := frozen_of_block hZ 2
          have f3 := frozen_of_block hZ 3
          simp at a0 a1 a2 a3 z0 z1 z2 z3
          have HK := hid hk
          have HA := hid hA
          have HZ := hid hZ
          clear hA hZ hK hk
          rw [show upRes none = .tuple #[.string ⟨#[]⟩, .bool false] from rfl]
          go_wp2
          rw [HR.out]
          refine bodyPost_ret (v := .tuple #[.agg #[.int .i64 1, .string (bs user), .slice ta tos.length tcap, .string (bs text)], .int .i64 535]) (by simp [results, Tryz.results57, go_sem, z0, z1, z2, z3]) rfl ⟨_, rfl, ⟨_, rfl, HST.out.kept0 ?_, hul, htl⟩, ?_, fun R _ h => h.elim .inl (fun e => .inr (List.eq_nil_of_length_eq_zero e))⟩
          all_goals (repeat' with_reducible first | exact HK.out | refine Kept.setCell ?_ _ _ (by simp) | refine Kept.drewN ?_ _ | refine Kept.drew ?_ | refine Kept.alloc ?_ _)
        | some n =>
          rw [hpu] at hr HCL
          have HR := hid hr
          have hn8 := (isName_len (plainU_name hpu)).2
          clear hr hpu
          go_enter Tryz.func57, Tryz.ntmps57
          go_wp2_with fail
          refine (HCL.out _ K2.out).mono ?_
          rintro e w1 ⟨rfl, hK⟩
          obtain ⟨hA, hZ, hk, hz⟩ := two_blocks hK
          have hy := lt_of_block hA
          have a0 := cell_of_block hA 0
          have a1 := cell_of_block hA 1
          have a2 := cell_of_block hA 2
          have a3 := cell_of_block hA 3
          have z0 := cell_of_block hZ 0
          have z1 := cell_of_block hZ 1
          have z2 := cell_of_block hZ 2
          have z3 := cell_of_block hZ 3
          have g0 := frozen_of_block hA 0
          have g1 := frozen_of_block hA 1
          have g2 := frozen_of_block hA 2
          have g3 := frozen_of_block hA 3
          have f0 := frozen_of_block hZ 0
          have f1 := frozen_of_block hZ 1
          have f2 := frozen_of_block hZ 2
          have f3 := frozen_of_block hZ 3
          simp at a0 a1 a2 a3 z0 z1 z2 z3
          have HK := hid hk
          have HA := hid hA
          have HZ := hid hZ
          clear hA hZ hK hk
          rw [show upRes (some n) = .tuple #[.string (bs n), .bool true] from rfl]
          go_wp2
          rw [HR.out]
          refine bodyPost_ret (v := .tuple #[.agg #[.int .i64 2, .string (bs n), .slice (some ⟨w1.heap.size, 0, none⟩) 0 0, .string ⟨#[]⟩], .int .i64 235]) (by simp [results, Tryz.results57, go_sem, z0, z1, z2, z3, hz]) rfl ⟨_, rfl, ⟨_, rfl, strs_none _ _ _, (by show n.length ≤ bigN; unfold bigN; omega), Nat.zero_le _⟩, ?_, fun R _ _ => .inr rfl⟩
          (repeat' with_reducible first | exact HK.out | refine Kept.setCell ?_ _ _ (by simp) | refine Kept.drewN ?_ _ | refine Kept.drew ?_ | refine Kept.alloc ?_ _)
      · have hr : authP ⟨1, user, tos, text⟩ us ws = (⟨1, user, tos, text⟩, 501) := by
          unfold authP; rw [if_neg (by simp), if_pos (by rw [hg1]; exact fun e => hpw e.2)]
        rw [decide_eq_false hpw] at hst
        rw [hr]
        have HC := hid hc
        clear hr hc ha hg1 hg2 hpw h3
        go_enter Tryz.func57, Tryz.ntmps57
        go_wp2
        refine bodyPost_ret (v := .tuple #[.agg #[.int .i64 1, .string (bs user), .slice ta tos.length tcap, .string (bs text)], .int .i64 501]) (by simp [results, Tryz.results57, go_sem]) rfl ⟨_, rfl, ⟨_, rfl, HST.out.kept0 (((Kept.refl [] w).alloc _).alloc _), hul, htl⟩, ((Kept.refl [] w).alloc _).alloc _, fun R _ h => h.elim .inl (fun e => .inr (List.eq_nil_of_length_eq_zero e))⟩
    · have hr : authP ⟨1, user, tos, text⟩ us ws = (⟨1, user, tos, text⟩, 501) := by unfold authP; rw [if_neg (by simp), if_pos (fun e => h3 e.1)]
      have hlen : ((ws.length : Int) == 3) = false := by rw [beq_eq_false_iff_ne]; omega
      have hlen' : ((ws.length : Int) != 3) = true := by simp; omega
      rw [hr]
      clear hr hc ha h3
      go_enter Tryz.func57, Tryz.ntmps57
      go_wp2
      refine bodyPost_ret (v := .tuple #[.agg #[.int .i64 1, .string (bs user), .slice ta tos.length tcap, .string (bs text)], .int .i64 501]) (by simp [results, Tryz.results57, go_sem]) rfl ⟨_, rfl, ⟨_, rfl, HST.out.kept0 (((Kept.refl [] w).alloc _).alloc _), hul, htl⟩, ((Kept.refl [] w).alloc _).alloc _, fun R _ h => h.elim .inl (fun e => .inr (List.eq_nil_of_length_eq_zero e))⟩
  · have hr : authP ⟨stage, user, tos, text⟩ us ws = (⟨stage, user, tos, text⟩, 503) := by unfold authP; rw [if_pos h1]
    have h1' : (stage != 1) = true := by simpa using h1
    rw [hr]
    clear hr hc ha h1
    go_enter Tryz.func57, Tryz.ntmps57
    go_wp2
    refine bodyPost_ret (v := .tuple #[.agg #[.int .i64 stage, .string (bs user), .slice ta tos.length tcap, .string (bs text)], .int .i64 503]) (by simp [results, Tryz.results57, go_sem]) rfl ⟨_, rfl, ⟨_, rfl, HST.out.kept0 (((Kept.refl [] w).alloc _).alloc _), hul, htl⟩, ((Kept.refl [] w).alloc _).alloc _, fun R _ h => h.elim .inl (fun e => .inr (List.eq_nil_of_length_eq_zero e))⟩
end Go.Proofs.YtahiahboneljaaaGreatDoor
namespace Go.Proofs.YtahiahboneljaaaGreatDoor
open Go.RowKit

theorem StrsAt.keptNe {x0 x1 x3 : Value} {w w' : World} {Z : Nat} {ra : Option Addr} {n cap : Nat} {l : List (List UInt8)} (h : StrsAt 0 w (.slice ra n cap) l) (k : Kept [Z] w w') (hn : (subTo (.agg #[x0, x1, .slice ra n cap, x3])).ownBlock ≠ some Z ∨ l = []) : StrsAt 0 w' (.slice ra n cap) l := by
  obtain ⟨a, cap', b, off, hv, hl, hc, ha, hcl⟩ := h
  injection hv with e1 e2 e3
  subst e1 e2 e3
  refine ⟨ra, cap, b, off, rfl, hl, hc, fun h0 => ⟨(ha h0).1, (ha h0).2.1, Nat.lt_of_lt_of_le (ha h0).2.2 k.size⟩, fun j hj => ?_⟩
  have h0 : 0 < l.length := by omega
  have hb : b ≠ Z := by
    rcases hn with hn | hn
    · intro e; apply hn; rw [(ha h0).1]; subst e; rfl
    · rw [hn] at h0; cases h0
  exact ⟨k.cell_some (hcl j hj).1 (by simpa using hb), (hcl j hj).2⟩

theorem l1Cut32_any (s : List UInt8) (w : World) (hs : s.length + 1 ≤ bigN) :
    Calls Tryz.prog 54 #[.string (bs s), .int .u8 32] w fun e w' => ∃ a cap, e = .returned (.slice a (cutB 32 s).length cap) ∧ StrsAt 0 w' (.slice a (cutB 32 s).length cap) (cutB 32 s) ∧ Kept [] w w' := by
  have h := l1Cut_any (bs s) 32 32 rfl w (by rw [bs_size]; omega)
  rw [bs_toList] at h
  refine h.mono ?_
  rintro e w' ⟨v, rfl, hown, hK⟩
  have hlen := cutB_len 32 s
  have hS := strs_own hown (by omega) (fun x hx => Nat.le_trans (cutB_part 32 s x hx) (by omega))
  obtain ⟨a, cap, rfl⟩ := hS.form
  exact ⟨a, cap, rfl, hS, hK⟩

theorem to_ne {w : World} {ta : Option Addr} {tcap : Nat} {tos : List (List UInt8)} (h : StrsAt 0 w (.slice ta tos.length tcap) tos) (x0 x1 x3 : Value) :
    ∀ R, w.heap.size ≤ R → (subTo (.agg #[x0, x1, .slice ta tos.length tcap, x3])).ownBlock ≠ some R ∨ subLen (.agg #[x0, x1, .slice ta tos.length tcap, x3]) = 0 := by
  intro R hR
  obtain ⟨a, cap', b, off, hv, hl, hc, ha, hcl⟩ := h
  injection hv with e1 e2 e3
  subst e1 e3
  rcases Nat.eq_zero_or_pos tos.length with h0 | h0
  · exact .inr h0
  · obtain ⟨rfl, -, hb⟩ := ha h0
    left
    intro e
    have : b = R := by injection e
    omega

set_option maxHeartbeats 4000000 in
theorem sLine_any (v uv : Value) (s : Sb) (us : List Usr) (dom l : List UInt8) (w : World) (hu : SubAt 0 w v s) (huu : UsersAt 0 w uv us) (hv : subOk s = true) (hl : l.length + 1 ≤ bigN) :
    Calls Tryz.prog 30 #[v, uv, .string (bs dom), .string (bs l)] w (SubRes w (lineP s us dom l)) := by
  obtain ⟨tv, rfl, hst, hul, htl⟩ := hu
  obtain ⟨ta, tcap, rfl⟩ := hst.form
  obtain ⟨-, -, -, gx, gt, -, gl, -⟩ := subOk_use hv
  obtain ⟨stage, user, tos, text⟩ := s
  dsimp only at hst hul htl gx gt gl ⊢
  have htx21 := (subOk_use hv).2.2.2.2.2.2.2
  dsimp only at htx21
  have HGX := hid gx
  have HGT := hid gt
  have HV := hid hv
  clear gx gt hv
  have HNE := hid (to_ne hst (.int .i64 stage) (.string (bs user)) (.string (bs text)))
  have HST := hid hst
  have HUU := hid huu
  have HSA := hid (fun w' (k : Kept [] w w') => show SubAt 0 w' (.agg #[.int .i64 stage, .string (bs user), .slice ta tos.length tcap, .string (bs text)]) ⟨stage, user, tos, text⟩ from ⟨_, rfl, HST.out.kept0 k, hul, htl⟩)
  have hls : (bs l).size ≤ bigN := by rw [bs_size]; omega
  have HSP := hid (fun w => l1Cut32_any l w hl)
  have hpos := cutB_pos 32 l
  have hg0 : (cutB 32 l).getD 0 [] = (cutB 32 l)[0] := by simp [List.getD, List.getElem?_eq_getElem hpos]
  have hr : lineP ⟨stage, user, tos, text⟩ us dom l = if stage = 6 then (⟨stage, user, tos, text⟩, 503) else if stage = 5 then dataP ⟨stage, user, tos, text⟩ l
      else if (cutB 32 l)[0] = [69, 72, 76, 79] then helloP ⟨stage, user, tos, text⟩ (cutB 32 l) else if (cutB 32 l)[0] = [65, 85, 84, 72] then authP ⟨stage, user, tos, text⟩ us (cutB 32 l)
      else if (cutB 32 l)[0] = [77, 65, 73, 76] then mailP ⟨stage, user, tos, text⟩ dom l else if (cutB 32 l)[0] = [82, 67, 80, 84] then toP ⟨stage, user, tos, text⟩ us dom l else restP ⟨stage, user, tos, text⟩ l := by
    unfold lineP; rw [hg0]
  generalize hL : cutB 32 l = L at HSP hpos hr
  clear hL hg0 hst huu
  have t1 : ((bs L[0]).toList == [69, 72, 76, 79]) = decide (L[0] = [69, 72, 76, 79]) := by have := str_eq (bs L[0]) [69, 72, 76, 79]; rwa [bs_toList] at this
  have t2 : ((bs L[0]).toList == [65, 85, 84, 72]) = decide (L[0] = [65, 85, 84, 72]) := by have := str_eq (bs L[0]) [65, 85, 84, 72]; rwa [bs_toList] at this
  have t3 : ((bs L[0]).toList == [77, 65, 73, 76]) = decide (L[0] = [77, 65, 73, 76]) := by have := str_eq (bs L[0]) [77, 65, 73, 76]; rwa [bs_toList] at this
  have t4 : ((bs L[0]).toList == [82, 67, 80, 84]) = decide (L[0] = [82, 67, 80, 84]) := by have := str_eq (bs L[0]) [82, 67, 80, 84]; rwa [bs_toList] at this
  have HL0 : Hid (True) := trivial
  by_cases h6 : stage = 6
  · have g6 : (stage == 6) = true := by simp [h6]
    rw [hr, if_pos h6]
    clear hr t1 t2 t3 t4 h6
    go_enter Tryz.func30, Tryz.ntmps30
    go_wp2_with fail
    refine (HSP.out _).mono ?_
    rintro e w1 ⟨a, cap, rfl, hS, hK⟩
    obtain ⟨hA, hZ, hk, hz⟩ := two_blocks hK
    have hy := lt_of_block hA
    have a0 := cell_of_block hA 0
    have a1 := cell_of_block hA 1
    have a2 := cell_of_block hA 2
    have a3 := cell_of_block hA 3
    have z0 := cell_of_block hZ 0
    have z1 := cell_of_block hZ 1
    have z2 := cell_of_block hZ 2
    have z3 := cell_of_block hZ 3
    have g0 := frozen_of_block hA 0
    have g1 := frozen_of_block hA 1
    have g2 := frozen_of_block hA 2
    have g3 := frozen_of_block hA 3
    have f0 := frozen_of_block hZ 0
    have f1 := frozen_of_block hZ 1
    have f2 := frozen_of_block hZ 2
    have f3 := frozen_of_block hZ 3
    simp at a0 a1 a2 a3 z0 z1 z2 z3
    have HK := hid hk
    have HA := hid hA
    have HZ := hid hZ
    clear hA hZ hK hk
    obtain ⟨a', cap', b, off, hv1, hl1, hcap1, ha1, hc1⟩ := id hS
    injection hv1 with e1 e2 e3
    subst e1 e3
    have HS1 := hid hS
    obtain ⟨rfl, -, hbw⟩ := ha1 hpos
    have hw0 := (hc1 0 hpos).1
    have hcp : 0 < cap := by omega
    clear e2 hl1 hcap1 ha1 hc1 hS
    rw [Nat.add_zero] at hw0
    go_wp2
    refine bodyPost_ret (v := .tuple #[.agg #[.int .i64 stage, .string (bs user), .slice ta tos.length tcap, .string (bs text)], .int .i64 503]) (by simp [results, Tryz.results30, go_sem, z0, z1, z2, z3]) rfl ⟨_, rfl, ⟨_, rfl, HST.out.kept0 ?_, hul, htl⟩, ?_⟩
    all_goals (repeat' with_reducible first | exact HK.out | refine Kept.setCell ?_ _ _ (by simp))
  · rw [if_neg h6] at hr
    have g6 : (stage == 6) = false := by simpa using h6
    by_cases h5 : stage = 5
    · have g5 : (stage == 5) = true := by simp [h5]
      rw [if_pos h5] at hr
      have HD := hid (fun w v h => sData_any v ⟨stage, user, tos, text⟩ (bs l) w h hls htx21)
      rw [bs_toList] at HD
      rw [hr]
      generalize dataP ⟨stage, user, tos, text⟩ l = x at HD
      clear hr t1 t2 t3 t4 h5 h6
      go_enter Tryz.func30, Tryz.ntmps30
      go_wp2_with fail
      refine (HSP.out _).mono ?_
      rintro e w1 ⟨a, cap, rfl, hS, hK⟩
      obtain ⟨hA, hZ, hk, hz⟩ := two_blocks hK
      have hy := lt_of_block hA
      have a0 := cell_of_block hA 0
      have a1 := cell_of_block hA 1
      have a2 := cell_of_block hA 2
      have a3 := cell_of_block hA 3
      have z0 := cell_of_block hZ 0
      have z1 := cell_of_block hZ 1
      have z2 := cell_of_block hZ 2
      have z3 := cell_of_block hZ 3
      have g0 := frozen_of_block hA 0
      have g1 := frozen_of_block hA 1
      have g2 := frozen_of_block hA 2
      have g3 := frozen_of_block hA 3
      have f0 := frozen_of_block hZ 0
      have f1 := frozen_of_block hZ 1
      have f2 := frozen_of_block hZ 2
      have f3 := frozen_of_block hZ 3
      simp at a0 a1 a2 a3 z0 z1 z2 z3
      have HK := hid hk
      have HA := hid hA
      have HZ := hid hZ
      clear hA hZ hK hk
      obtain ⟨a', cap', b, off, hv1, hl1, hcap1, ha1, hc1⟩ := id hS
      injection hv1 with e1 e2 e3
      subst e1 e3
      have HS1 := hid hS
      obtain ⟨rfl, -, hbw⟩ := ha1 hpos
      have hw0 := (hc1 0 hpos).1
      have hcp : 0 < cap := by omega
      clear e2 hl1 hcap1 ha1 hc1 hS
      rw [Nat.add_zero] at hw0
      go_wp2_with fail
      refine (HD.out _ _ (HSA.out _ HK.out)).mono ?_
      rintro e w3 ⟨r, rfl, ⟨tv3, rfl, hs3, hu3, ht3⟩, hK3, hown3⟩
      obtain ⟨ra, rcap, rfl⟩ := hs3.form
      have hne := hown3 (w.heap.size + 1) hz (HNE.out _ (Nat.le_succ _))
      have HS3 := hid hs3
      have HU3 := hid hu3
      have HT3 := hid ht3
      have HN3 := hid hne
      clear hs3 hu3 ht3 hown3 hne
      have hA2 := hK3.same HA.out (by simp)
      have hZ2 := hK3.same HZ.out (by simp)
      clear HA HZ a0 a1 a2 a3 z0 z1 z2 z3 g0 g1 g2 g3 f0 f1 f2 f3 hz hy
      have a0 := cell_of_block hA2 0
      have a1 := cell_of_block hA2 1
      have a2 := cell_of_block hA2 2
      have a3 := cell_of_block hA2 3
      have g0 := frozen_of_block hA2 0
      have g1 := frozen_of_block hA2 1
      have g2 := frozen_of_block hA2 2
      have g3 := frozen_of_block hA2 3
      simp at a0 a1 a2 a3
      have z0 := cell_of_block hZ2 0
      have z1 := cell_of_block hZ2 1
      have z2 := cell_of_block hZ2 2
      have z3 := cell_of_block hZ2 3
      have f0 := frozen_of_block hZ2 0
      have f1 := frozen_of_block hZ2 1
      have f2 := frozen_of_block hZ2 2
      have f3 := frozen_of_block hZ2 3
      simp at z0 z1 z2 z3
      have hz := lt_of_block hZ2
      have hy := lt_of_block hA2
      have HK2 := hid (HK.out.trans hK3)
      have HA := hid hA2
      have HZ := hid hZ2
      clear HK hA2 hZ2 hK3
      have HK := HK2
      clear HK2
      go_wp2
      refine bodyPost_ret (v := .tuple #[.agg #[.int .i64 x.1.stage, .string (bs x.1.user), .slice ra x.1.to.length rcap, .string (bs x.1.text)], .int .i64 x.2]) (by simp [results, Tryz.results30, go_sem, z0, z1, z2, z3]) rfl ⟨_, rfl, ⟨_, rfl, HS3.out.keptNe (Z := w.heap.size + 1) ?_ HN3.out, HU3.out, HT3.out⟩, ?_⟩
      · (repeat' with_reducible first | exact Kept.refl _ _ | refine Kept.setCell ?_ _ _ (by simp))
      · (repeat' with_reducible first | exact HK.out | refine Kept.setCell ?_ _ _ (by simp) | refine Kept.drewN ?_ _ | refine Kept.drew ?_ | refine Kept.alloc ?_ _)
    · rw [if_neg h5] at hr
      have g5 : (stage == 5) = false := by simpa using h5
      have HX : Hid (text = []) := HGX.out h5
      have HG5 := hid h5
      clear h6 h5
      by_cases q1 : L[0] = [69, 72, 76, 79]
      · rw [if_pos q1] at hr
        rw [decide_eq_true q1] at t1
        rw [hr]
        have HD := hid (fun w v wv h h2 => sHello_any v wv ⟨stage, user, tos, text⟩ L w h h2)
        generalize helloP ⟨stage, user, tos, text⟩ L = x at HD
        clear hr t2 t3 t4 q1
        go_enter Tryz.func30, Tryz.ntmps30
        go_wp2_with fail
        refine (HSP.out _).mono ?_
        rintro e w1 ⟨a, cap, rfl, hS, hK⟩
        obtain ⟨hA, hZ, hk, hz⟩ := two_blocks hK
        have hy := lt_of_block hA
        have a0 := cell_of_block hA 0
        have a1 := cell_of_block hA 1
        have a2 := cell_of_block hA 2
        have a3 := cell_of_block hA 3
        have z0 := cell_of_block hZ 0
        have z1 := cell_of_block hZ 1
        have z2 := cell_of_block hZ 2
        have z3 := cell_of_block hZ 3
        have g0 := frozen_of_block hA 0
        have g1 := frozen_of_block hA 1
        have g2 := frozen_of_block hA 2
        have g3 := frozen_of_block hA 3
        have f0 := frozen_of_block hZ 0
        have f1 := frozen_of_block hZ 1
        have f2 := frozen_of_block hZ 2
        have f3 := frozen_of_block hZ 3
        simp at a0 a1 a2 a3 z0 z1 z2 z3
        have HK := hid hk
        have HA := hid hA
        have HZ := hid hZ
        clear hA hZ hK hk
        obtain ⟨a', cap', b, off, hv1, hl1, hcap1, ha1, hc1⟩ := id hS
        injection hv1 with e1 e2 e3
        subst e1 e3
        have HS1 := hid hS
        obtain ⟨rfl, -, hbw⟩ := ha1 hpos
        have hw0 := (hc1 0 hpos).1
        have hcp : 0 < cap := by omega
        clear e2 hl1 hcap1 ha1 hc1 hS
        rw [Nat.add_zero] at hw0
        go_wp2_with fail
        refine (HD.out _ _ _ (HSA.out _ HK.out) HS1.out).mono ?_
        rintro e w3 ⟨r, rfl, ⟨tv3, rfl, hs3, hu3, ht3⟩, hK3, hown3⟩
        obtain ⟨ra, rcap, rfl⟩ := hs3.form
        have hne := hown3 (w.heap.size + 1) hz (HNE.out _ (Nat.le_succ _))
        have HS3 := hid hs3
        have HU3 := hid hu3
        have HT3 := hid ht3
        have HN3 := hid hne
        clear hs3 hu3 ht3 hown3 hne
        have hA2 := hK3.same HA.out (by simp)
        have hZ2 := hK3.same HZ.out (by simp)
        clear HA HZ a0 a1 a2 a3 z0 z1 z2 z3 g0 g1 g2 g3 f0 f1 f2 f3 hz hy
        have a0 := cell_of_block hA2 0
        have a1 := cell_of_block hA2 1
        have a2 := cell_of_block hA2 2
        have a3 := cell_of_block hA2 3
        have g0 := frozen_of_block hA2 0
        have g1 := frozen_of_block hA2 1
        have g2 := frozen_of_block hA2 2
        have g3 := frozen_of_block hA2 3
        simp at a0 a1 a2 a3
        have z0 := cell_of_block hZ2 0
        have z1 := cell_of_block hZ2 1
        have z2 := cell_of_block hZ2 2
        have z3 := cell_of_block hZ2 3
        have f0 := frozen_of_block hZ2 0
        have f1 := frozen_of_block hZ2 1
        have f2 := frozen_of_block hZ2 2
        have f3 := frozen_of_block hZ2 3
        simp at z0 z1 z2 z3
        have hz := lt_of_block hZ2
        have hy := lt_of_block hA2
        have HK2 := hid (HK.out.trans hK3)
        have HA := hid hA2
        have HZ := hid hZ2
        clear HK hA2 hZ2 hK3
        have HK := HK2
        clear HK2
        go_wp2
        refine bodyPost_ret (v := .tuple #[.agg #[.int .i64 x.1.stage, .string (bs x.1.user), .slice ra x.1.to.length rcap, .string (bs x.1.text)], .int .i64 x.2]) (by simp [results, Tryz.results30, go_sem, z0, z1, z2, z3]) rfl ⟨_, rfl, ⟨_, rfl, HS3.out.keptNe (Z := w.heap.size + 1) ?_ HN3.out, HU3.out, HT3.out⟩, ?_⟩
        · (repeat' with_reducible first | exact Kept.refl _ _ | refine Kept.setCell ?_ _ _ (by simp))
        · (repeat' with_reducible first | exact HK.out | refine Kept.setCell ?_ _ _ (by simp) | refine Kept.drewN ?_ _ | refine Kept.drew ?_ | refine Kept.alloc ?_ _)
      · rw [if_neg q1] at hr
        rw [decide_eq_false q1] at t1
        by_cases q2 : L[0] = [65, 85, 84, 72]
        · rw [if_pos q2] at hr
          rw [decide_eq_true q2] at t2
          rw [hr]
          have HD := hid (fun w v uv wv h h2 h3 => sAuth_any v uv wv ⟨stage, user, tos, text⟩ us L w h h2 h3)
          generalize authP ⟨stage, user, tos, text⟩ us L = x at HD
          clear hr t3 t4 q1 q2
          go_enter Tryz.func30, Tryz.ntmps30
          go_wp2_with fail
          refine (HSP.out _).mono ?_
          rintro e w1 ⟨a, cap, rfl, hS, hK⟩
          obtain ⟨hA, hZ, hk, hz⟩ := two_blocks hK
          have hy := lt_of_block hA
          have a0 := cell_of_block hA 0
          have a1 := cell_of_block hA 1
          have a2 := cell_of_block hA 2
          have a3 := cell_of_block hA 3
          have z0 := cell_of_block hZ 0
          have z1 := cell_of_block hZ 1
          have z2 := cell_of_block hZ 2
          have z3 := cell_of_block hZ 3
          have g0 := frozen_of_block hA 0
          have g1 := frozen_of_block hA 1
          have g2 := frozen_of_block hA 2
          have g3 := frozen_of_block hA 3
          have f0 := frozen_of_block hZ 0
          have f1 := frozen_of_block hZ 1
          have f2 := frozen_of_block hZ 2
          have f3 := frozen_of_block hZ 3
          simp at a0 a1 a2 a3 z0 z1 z2 z3
          have HK := hid hk
          have HA := hid hA
          have HZ := hid hZ
          clear hA hZ hK hk
          obtain ⟨a', cap', b, off, hv1, hl1, hcap1, ha1, hc1⟩ := id hS
          injection hv1 with e1 e2 e3
          subst e1 e3
          have HS1 := hid hS
          obtain ⟨rfl, -, hbw⟩ := ha1 hpos
          have hw0 := (hc1 0 hpos).1
          have hcp : 0 < cap := by omega
          clear e2 hl1 hcap1 ha1 hc1 hS
          rw [Nat.add_zero] at hw0
          go_wp2_with fail
          refine (HD.out _ _ _ _ (HSA.out _ HK.out) (HUU.out.kept0 HK.out) HS1.out).mono ?_
          rintro e w3 ⟨r, rfl, ⟨tv3, rfl, hs3, hu3, ht3⟩, hK3, hown3⟩
          obtain ⟨ra, rcap, rfl⟩ := hs3.form
          have hne := hown3 (w.heap.size + 1) hz (HNE.out _ (Nat.le_succ _))
          have HS3 := hid hs3
          have HU3 := hid hu3
          have HT3 := hid ht3
          have HN3 := hid hne
          clear hs3 hu3 ht3 hown3 hne
          have hA2 := hK3.same HA.out (by simp)
          have hZ2 := hK3.same HZ.out (by simp)
          clear HA HZ a0 a1 a2 a3 z0 z1 z2 z3 g0 g1 g2 g3 f0 f1 f2 f3 hz hy
          have a0 := cell_of_block hA2 0
          have a1 := cell_of_block hA2 1
          have a2 := cell_of_block hA2 2
          have a3 := cell_of_block hA2 3
          have g0 := frozen_of_block hA2 0
          have g1 := frozen_of_block hA2 1
          have g2 := frozen_of_block hA2 2
          have g3 := frozen_of_block hA2 3
          simp at a0 a1 a2 a3
          have z0 := cell_of_block hZ2 0
          have z1 := cell_of_block hZ2 1
          have z2 := cell_of_block hZ2 2
          have z3 := cell_of_block hZ2 3
          have f0 := frozen_of_block hZ2 0
          have f1 := frozen_of_block hZ2 1
          have f2 := frozen_of_block hZ2 2
          have f3 := frozen_of_block hZ2 3
          simp at z0 z1 z2 z3
          have hz := lt_of_block hZ2
          have hy := lt_of_block hA2
          have HK2 := hid (HK.out.trans hK3)
          have HA := hid hA2
          have HZ := hid hZ2
          clear HK hA2 hZ2 hK3
          have HK := HK2
          clear HK2
          go_wp2
          refine bodyPost_ret (v := .tuple #[.agg #[.int .i64 x.1.stage, .string (bs x.1.user), .slice ra x.1.to.length rcap, .string (bs x.1.text)], .int .i64 x.2]) (by simp [results, Tryz.results30, go_sem, z0, z1, z2, z3]) rfl ⟨_, rfl, ⟨_, rfl, HS3.out.keptNe (Z := w.heap.size + 1) ?_ HN3.out, HU3.out, HT3.out⟩, ?_⟩
          · (repeat' with_reducible first | exact Kept.refl _ _ | refine Kept.setCell ?_ _ _ (by simp))
          · (repeat' with_reducible first | exact HK.out | refine Kept.setCell ?_ _ _ (by simp) | refine Kept.drewN ?_ _ | refine Kept.drew ?_ | refine Kept.alloc ?_ _)
        · rw [if_neg q2] at hr
          rw [decide_eq_false q2] at t2
          by_cases q3 : L[0] = [77, 65, 73, 76]
          · rw [if_pos q3] at hr
            rw [decide_eq_true q3] at t3
            rw [hr]
            have HD := hid (fun w v h => sMail_any v ⟨stage, user, tos, text⟩ dom (bs l) w h hls)
            rw [bs_toList] at HD
            generalize mailP ⟨stage, user, tos, text⟩ dom l = x at HD
            clear hr t4 q1 q2 q3
            go_enter Tryz.func30, Tryz.ntmps30
            go_wp2_with fail
            refine (HSP.out _).mono ?_
            rintro e w1 ⟨a, cap, rfl, hS, hK⟩
            obtain ⟨hA, hZ, hk, hz⟩ := two_blocks hK
            have hy := lt_of_block hA
            have a0 := cell_of_block hA 0
            have a1 := cell_of_block hA 1
            have a2 := cell_of_block hA 2
            have a3 := cell_of_block hA 3
            have z0 := cell_of_block hZ 0
            have z1 := cell_of_block hZ 1
            have z2 := cell_of_block hZ 2
            have z3 := cell_of_block hZ 3
            have g0 := frozen_of_block hA 0
            have g1 := frozen_of_block hA 1
            have g2 := frozen_of_block hA 2
            have g3 := frozen_of_block hA 3
            have f0 := frozen_of_block hZ 0
            have f1 := frozen_of_block hZ 1
            have f2 := frozen_of_block hZ 2
            have f3 := frozen_of_block hZ 3
            simp at a0 a1 a2 a3 z0 z1 z2 z3
            have HK := hid hk
            have HA := hid hA
            have HZ := hid hZ
            clear hA hZ hK hk
            obtain ⟨a', cap', b, off, hv1, hl1, hcap1, ha1, hc1⟩ := id hS
            injection hv1 with e1 e2 e3
            subst e1 e3
            have HS1 := hid hS
            obtain ⟨rfl, -, hbw⟩ := ha1 hpos
            have hw0 := (hc1 0 hpos).1
            have hcp : 0 < cap := by omega
            clear e2 hl1 hcap1 ha1 hc1 hS
            rw [Nat.add_zero] at hw0
            go_wp2_with fail
            refine (HD.out _ _ (HSA.out _ HK.out)).mono ?_
            rintro e w3 ⟨r, rfl, ⟨tv3, rfl, hs3, hu3, ht3⟩, hK3, hown3⟩
            obtain ⟨ra, rcap, rfl⟩ := hs3.form
            have hne := hown3 (w.heap.size + 1) hz (HNE.out _ (Nat.le_succ _))
            have HS3 := hid hs3
            have HU3 := hid hu3
            have HT3 := hid ht3
            have HN3 := hid hne
            clear hs3 hu3 ht3 hown3 hne
            have hA2 := hK3.same HA.out (by simp)
            have hZ2 := hK3.same HZ.out (by simp)
            clear HA HZ a0 a1 a2 a3 z0 z1 z2 z3 g0 g1 g2 g3 f0 f1 f2 f3 hz hy
            have a0 := cell_of_block hA2 0
            have a1 := cell_of_block hA2 1
            have a2 := cell_of_block hA2 2
            have a3 := cell_of_block hA2 3
            have g0 := frozen_of_block hA2 0
            have g1 := frozen_of_block hA2 1
            have g2 := frozen_of_block hA2 2
            have g3 := frozen_of_block hA2 3
            simp at a0 a1 a2 a3
            have z0 := cell_of_block hZ2 0
            have z1 := cell_of_block hZ2 1
            have z2 := cell_of_block hZ2 2
            have z3 := cell_of_block hZ2 3
            have f0 := frozen_of_block hZ2 0
            have f1 := frozen_of_block hZ2 1
            have f2 := frozen_of_block hZ2 2
            have f3 := frozen_of_block hZ2 3
            simp at z0 z1 z2 z3
            have hz := lt_of_block hZ2
            have hy := lt_of_block hA2
            have HK2 := hid (HK.out.trans hK3)
            have HA := hid hA2
            have HZ := hid hZ2
            clear HK hA2 hZ2 hK3
            have HK := HK2
            clear HK2
            go_wp2
            refine bodyPost_ret (v := .tuple #[.agg #[.int .i64 x.1.stage, .string (bs x.1.user), .slice ra x.1.to.length rcap, .string (bs x.1.text)], .int .i64 x.2]) (by simp [results, Tryz.results30, go_sem, z0, z1, z2, z3]) rfl ⟨_, rfl, ⟨_, rfl, HS3.out.keptNe (Z := w.heap.size + 1) ?_ HN3.out, HU3.out, HT3.out⟩, ?_⟩
            · (repeat' with_reducible first | exact Kept.refl _ _ | refine Kept.setCell ?_ _ _ (by simp))
            · (repeat' with_reducible first | exact HK.out | refine Kept.setCell ?_ _ _ (by simp) | refine Kept.drewN ?_ _ | refine Kept.drew ?_ | refine Kept.alloc ?_ _)
          · rw [if_neg q3] at hr
            rw [decide_eq_false q3] at t3
            by_cases q4 : L[0] = [82, 67, 80, 84]
            · rw [if_pos q4] at hr
              rw [decide_eq_true q4] at t4
              rw [hr]
              have HD := hid (fun w v uv h h2 => sTo_any v uv ⟨stage, user, tos, text⟩ us dom (bs l) w h h2 hls gl (fun _ => HX.out))
              rw [bs_toList] at HD
              generalize toP ⟨stage, user, tos, text⟩ us dom l = x at HD
              clear hr q1 q2 q3 q4
              go_enter Tryz.func30, Tryz.ntmps30
              go_wp2_with fail
              refine (HSP.out _).mono ?_
              rintro e w1 ⟨a, cap, rfl, hS, hK⟩
              obtain ⟨hA, hZ, hk, hz⟩ := two_blocks hK
              have hy := lt_of_block hA
              have a0 := cell_of_block hA 0
              have a1 := cell_of_block hA 1
              have a2 := cell_of_block hA 2
              have a3 := cell_of_block hA 3
              have z0 := cell_of_block hZ 0
              have z1 := cell_of_block hZ 1
              have z2 := cell_of_block hZ 2
              have z3 := cell_of_block hZ 3
              have g0 := frozen_of_block hA 0
              have g1 := frozen_of_block hA 1
              have g2 := frozen_of_block hA 2
              have g3 := frozen_of_block hA 3
              have f0 := frozen_of_block hZ 0
              have f1 := frozen_of_block hZ 1
              have f2 := frozen_of_block hZ 2
              have f3 := frozen_of_block hZ 3
              simp at a0 a1 a2 a3 z0 z1 z2 z3
              have HK := hid hk
              have HA := hid hA
              have HZ := hid hZ
              clear hA hZ hK hk
              obtain ⟨a', cap', b, off, hv1, hl1, hcap1, ha1, hc1⟩ := id hS
              injection hv1 with e1 e2 e3
              subst e1 e3
              have HS1 := hid hS
              obtain ⟨rfl, -, hbw⟩ := ha1 hpos
              have hw0 := (hc1 0 hpos).1
              have hcp : 0 < cap := by omega
              clear e2 hl1 hcap1 ha1 hc1 hS
              rw [Nat.add_zero] at hw0
              go_wp2_with fail
              refine (HD.out _ _ _ (HSA.out _ HK.out) (HUU.out.kept0 HK.out)).mono ?_
              rintro e w3 ⟨r, rfl, ⟨tv3, rfl, hs3, hu3, ht3⟩, hK3, hown3⟩
              obtain ⟨ra, rcap, rfl⟩ := hs3.form
              have hne := hown3 (w.heap.size + 1) hz (HNE.out _ (Nat.le_succ _))
              have HS3 := hid hs3
              have HU3 := hid hu3
              have HT3 := hid ht3
              have HN3 := hid hne
              clear hs3 hu3 ht3 hown3 hne
              have hA2 := hK3.same HA.out (by simp)
              have hZ2 := hK3.same HZ.out (by simp)
              clear HA HZ a0 a1 a2 a3 z0 z1 z2 z3 g0 g1 g2 g3 f0 f1 f2 f3 hz hy
              have a0 := cell_of_block hA2 0
              have a1 := cell_of_block hA2 1
              have a2 := cell_of_block hA2 2
              have a3 := cell_of_block hA2 3
              have g0 := frozen_of_block hA2 0
              have g1 := frozen_of_block hA2 1
              have g2 := frozen_of_block hA2 2
              have g3 := frozen_of_block hA2 3
              simp at a0 a1 a2 a3
              have z0 := cell_of_block hZ2 0
              have z1 := cell_of_block hZ2 1
              have z2 := cell_of_block hZ2 2
              have z3 := cell_of_block hZ2 3
              have f0 := frozen_of_block hZ2 0
              have f1 := frozen_of_block hZ2 1
              have f2 := frozen_of_block hZ2 2
              have f3 := frozen_of_block hZ2 3
              simp at z0 z1 z2 z3
              have hz := lt_of_block hZ2
              have hy := lt_of_block hA2
              have HK2 := hid (HK.out.trans hK3)
              have HA := hid hA2
              have HZ := hid hZ2
              clear HK hA2 hZ2 hK3
              have HK := HK2
              clear HK2
              go_wp2
              refine bodyPost_ret (v := .tuple #[.agg #[.int .i64 x.1.stage, .string (bs x.1.user), .slice ra x.1.to.length rcap, .string (bs x.1.text)], .int .i64 x.2]) (by simp [results, Tryz.results30, go_sem, z0, z1, z2, z3]) rfl ⟨_, rfl, ⟨_, rfl, HS3.out.keptNe (Z := w.heap.size + 1) ?_ HN3.out, HU3.out, HT3.out⟩, ?_⟩
              · (repeat' with_reducible first | exact Kept.refl _ _ | refine Kept.setCell ?_ _ _ (by simp))
              · (repeat' with_reducible first | exact HK.out | refine Kept.setCell ?_ _ _ (by simp) | refine Kept.drewN ?_ _ | refine Kept.drew ?_ | refine Kept.alloc ?_ _)
            · rw [if_neg q4] at hr
              rw [decide_eq_false q4] at t4
              clear q1 q2 q3 q4
              have e1 : ((bs l).toList == [68, 65, 84, 65]) = decide (l = [68, 65, 84, 65]) := by have := str_eq (bs l) [68, 65, 84, 65]; rwa [bs_toList] at this
              have e2 : ((bs l).toList == [82, 83, 69, 84]) = decide (l = [82, 83, 69, 84]) := by have := str_eq (bs l) [82, 83, 69, 84]; rwa [bs_toList] at this
              have e3 : ((bs l).toList == [78, 79, 79, 80]) = decide (l = [78, 79, 79, 80]) := by have := str_eq (bs l) [78, 79, 79, 80]; rwa [bs_toList] at this
              have e4 : ((bs l).toList == [81, 85, 73, 84]) = decide (l = [81, 85, 73, 84]) := by have := str_eq (bs l) [81, 85, 73, 84]; rwa [bs_toList] at this
              by_cases q1 : l = [68, 65, 84, 65]
              · rw [decide_eq_true q1] at e1
                by_cases h4 : stage = 4
                · have g4 : (stage == 4) = true := by simp [h4]
                  have hr2 : restP ⟨stage, user, tos, text⟩ l = (⟨5, user, tos, text⟩, 354) := by unfold restP; rw [if_pos q1, if_neg (by dsimp only; omega)]
                  rw [hr, hr2]
                  clear hr hr2 h4 q1 e2 e3 e4
                  go_enter Tryz.func30, Tryz.ntmps30
                  go_wp2_with fail
                  refine (HSP.out _).mono ?_
                  rintro e w1 ⟨a, cap, rfl, hS, hK⟩
                  obtain ⟨hA, hZ, hk, hz⟩ := two_blocks hK
                  have hy := lt_of_block hA
                  have a0 := cell_of_block hA 0
                  have a1 := cell_of_block hA 1
                  have a2 := cell_of_block hA 2
                  have a3 := cell_of_block hA 3
                  have z0 := cell_of_block hZ 0
                  have z1 := cell_of_block hZ 1
                  have z2 := cell_of_block hZ 2
                  have z3 := cell_of_block hZ 3
                  have g0 := frozen_of_block hA 0
                  have g1 := frozen_of_block hA 1
                  have g2 := frozen_of_block hA 2
                  have g3 := frozen_of_block hA 3
                  have f0 := frozen_of_block hZ 0
                  have f1 := frozen_of_block hZ 1
                  have f2 := frozen_of_block hZ 2
                  have f3 := frozen_of_block hZ 3
                  simp at a0 a1 a2 a3 z0 z1 z2 z3
                  have HK := hid hk
                  have HA := hid hA
                  have HZ := hid hZ
                  clear hA hZ hK hk
                  obtain ⟨a', cap', b, off, hv1, hl1, hcap1, ha1, hc1⟩ := id hS
                  injection hv1 with e1 e2 e3
                  subst e1 e3
                  have HS1 := hid hS
                  obtain ⟨rfl, -, hbw⟩ := ha1 hpos
                  have hw0 := (hc1 0 hpos).1
                  have hcp : 0 < cap := by omega
                  clear e2 hl1 hcap1 ha1 hc1 hS
                  rw [Nat.add_zero] at hw0
                  go_wp2
                  refine bodyPost_ret (v := .tuple #[.agg #[.int .i64 5, .string (bs user), .slice ta tos.length tcap, .string (bs text)], .int .i64 354]) (by simp [results, Tryz.results30, go_sem, z0, z1, z2, z3]) rfl ⟨_, rfl, ⟨_, rfl, HST.out.kept0 ?_, hul, htl⟩, ?_⟩
                  all_goals (repeat' with_reducible first | exact HK.out | refine Kept.setCell ?_ _ _ (by simp))
                · have g4 : (stage == 4) = false := by simpa using h4
                  have hr2 : restP ⟨stage, user, tos, text⟩ l = (⟨stage, user, tos, text⟩, 503) := by unfold restP; rw [if_pos q1, if_pos h4]
                  rw [hr, hr2]
                  clear hr hr2 h4 q1 e2 e3 e4
                  go_enter Tryz.func30, Tryz.ntmps30
                  go_wp2_with fail
                  refine (HSP.out _).mono ?_
                  rintro e w1 ⟨a, cap, rfl, hS, hK⟩
                  obtain ⟨hA, hZ, hk, hz⟩ := two_blocks hK
                  have hy := lt_of_block hA
                  have a0 := cell_of_block hA 0
                  have a1 := cell_of_block hA 1
                  have a2 := cell_of_block hA 2
                  have a3 := cell_of_block hA 3
                  have z0 := cell_of_block hZ 0
                  have z1 := cell_of_block hZ 1
                  have z2 := cell_of_block hZ 2
                  have z3 := cell_of_block hZ 3
                  have g0 := frozen_of_block hA 0
                  have g1 := frozen_of_block hA 1
                  have g2 := frozen_of_block hA 2
                  have g3 := frozen_of_block hA 3
                  have f0 := frozen_of_block hZ 0
                  have f1 := frozen_of_block hZ 1
                  have f2 := frozen_of_block hZ 2
                  have f3 := frozen_of_block hZ 3
                  simp at a0 a1 a2 a3 z0 z1 z2 z3
                  have HK := hid hk
                  have HA := hid hA
                  have HZ := hid hZ
                  clear hA hZ hK hk
                  obtain ⟨a', cap', b, off, hv1, hl1, hcap1, ha1, hc1⟩ := id hS
                  injection hv1 with e1 e2 e3
                  subst e1 e3
                  have HS1 := hid hS
                  obtain ⟨rfl, -, hbw⟩ := ha1 hpos
                  have hw0 := (hc1 0 hpos).1
                  have hcp : 0 < cap := by omega
                  clear e2 hl1 hcap1 ha1 hc1 hS
                  rw [Nat.add_zero] at hw0
                  go_wp2
                  refine bodyPost_ret (v := .tuple #[.agg #[.int .i64 stage, .string (bs user), .slice ta tos.length tcap, .string (bs text)], .int .i64 503]) (by simp [results, Tryz.results30, go_sem, z0, z1, z2, z3]) rfl ⟨_, rfl, ⟨_, rfl, HST.out.kept0 ?_, hul, htl⟩, ?_⟩
                  all_goals (repeat' with_reducible first | exact HK.out | refine Kept.setCell ?_ _ _ (by simp))
              · rw [decide_eq_false q1] at e1
                by_cases q2 : l = [82, 83, 69, 84]
                · rw [decide_eq_true q2] at e2
                  have hr2 : restP ⟨stage, user, tos, text⟩ l = (backP ⟨stage, user, tos, text⟩, 250) := by unfold restP; rw [if_neg q1, if_pos q2]
                  have HBK := hid (fun w v h => l21Back_any v ⟨stage, user, tos, text⟩ w h)
                  have hbt : (backP ⟨stage, user, tos, text⟩).to = [] := by unfold backP; split <;> rfl
                  rw [hr, hr2]
                  generalize backP ⟨stage, user, tos, text⟩ = y at HBK hbt
                  have HBT := hid hbt
                  clear hr hr2 q1 q2 e3 e4 hbt
                  go_enter Tryz.func30, Tryz.ntmps30
                  go_wp2_with fail
                  refine (HSP.out _).mono ?_
                  rintro e w1 ⟨a, cap, rfl, hS, hK⟩
                  obtain ⟨hA, hZ, hk, hz⟩ := two_blocks hK
                  have hy := lt_of_block hA
                  have a0 := cell_of_block hA 0
                  have a1 := cell_of_block hA 1
                  have a2 := cell_of_block hA 2
                  have a3 := cell_of_block hA 3
                  have z0 := cell_of_block hZ 0
                  have z1 := cell_of_block hZ 1
                  have z2 := cell_of_block hZ 2
                  have z3 := cell_of_block hZ 3
                  have g0 := frozen_of_block hA 0
                  have g1 := frozen_of_block hA 1
                  have g2 := frozen_of_block hA 2
                  have g3 := frozen_of_block hA 3
                  have f0 := frozen_of_block hZ 0
                  have f1 := frozen_of_block hZ 1
                  have f2 := frozen_of_block hZ 2
                  have f3 := frozen_of_block hZ 3
                  simp at a0 a1 a2 a3 z0 z1 z2 z3
                  have HK := hid hk
                  have HA := hid hA
                  have HZ := hid hZ
                  clear hA hZ hK hk
                  obtain ⟨a', cap', b, off, hv1, hl1, hcap1, ha1, hc1⟩ := id hS
                  injection hv1 with e1 e2 e3
                  subst e1 e3
                  have HS1 := hid hS
                  obtain ⟨rfl, -, hbw⟩ := ha1 hpos
                  have hw0 := (hc1 0 hpos).1
                  have hcp : 0 < cap := by omega
                  clear e2 hl1 hcap1 ha1 hc1 hS
                  rw [Nat.add_zero] at hw0
                  go_wp2_with fail
                  refine (HBK.out _ _ (HSA.out _ HK.out)).mono ?_
                  rintro e w3 ⟨r, rfl, ⟨tv3, rfl, hs3, hu3, ht3⟩, hK3⟩
                  obtain ⟨ra, rcap, rfl⟩ := hs3.form
                  have HS3 := hid hs3
                  have HU3 := hid hu3
                  have HT3 := hid ht3
                  clear hs3 hu3 ht3
                  have hA2 := hK3.same HA.out (by simp)
                  have hZ2 := hK3.same HZ.out (by simp)
                  clear HA HZ a0 a1 a2 a3 z0 z1 z2 z3 g0 g1 g2 g3 f0 f1 f2 f3 hz hy
                  have a0 := cell_of_block hA2 0
                  have a1 := cell_of_block hA2 1
                  have a2 := cell_of_block hA2 2
                  have a3 := cell_of_block hA2 3
                  have g0 := frozen_of_block hA2 0
                  have g1 := frozen_of_block hA2 1
                  have g2 := frozen_of_block hA2 2
                  have g3 := frozen_of_block hA2 3
                  simp at a0 a1 a2 a3
                  have z0 := cell_of_block hZ2 0
                  have z1 := cell_of_block hZ2 1
                  have z2 := cell_of_block hZ2 2
                  have z3 := cell_of_block hZ2 3
                  have f0 := frozen_of_block hZ2 0
                  have f1 := frozen_of_block hZ2 1
                  have f2 := frozen_of_block hZ2 2
                  have f3 := frozen_of_block hZ2 3
                  simp at z0 z1 z2 z3
                  have hz := lt_of_block hZ2
                  have hy := lt_of_block hA2
                  have HK2 := hid (HK.out.trans hK3)
                  have HA := hid hA2
                  have HZ := hid hZ2
                  clear HK hA2 hZ2 hK3
                  have HK := HK2
                  clear HK2
                  go_wp2
                  refine bodyPost_ret (v := .tuple #[.agg #[.int .i64 y.stage, .string (bs y.user), .slice ra y.to.length rcap, .string (bs y.text)], .int .i64 250]) (by simp [results, Tryz.results30, go_sem, z0, z1, z2, z3]) rfl ⟨_, rfl, ⟨_, rfl, HS3.out.keptNe (x0 := .bool true) (x1 := .bool true) (x3 := .bool true) (Z := w.heap.size + 1) ?_ (.inr HBT.out), HU3.out, HT3.out⟩, ?_⟩
                  · (repeat' with_reducible first | exact Kept.refl _ _ | refine Kept.setCell ?_ _ _ (by simp))
                  · (repeat' with_reducible first | exact HK.out | refine Kept.setCell ?_ _ _ (by simp) | refine Kept.drewN ?_ _ | refine Kept.drew ?_ | refine Kept.alloc ?_ _)
                · rw [decide_eq_false q2] at e2
                  by_cases q3 : l = [78, 79, 79, 80]
                  · rw [decide_eq_true q3] at e3
                    have hr2 : restP ⟨stage, user, tos, text⟩ l = (⟨stage, user, tos, text⟩, 250) := by unfold restP; rw [if_neg q1, if_neg q2, if_pos q3]
                    rw [hr, hr2]
                    clear hr hr2 q1 q2 q3 e4
                    go_enter Tryz.func30, Tryz.ntmps30
                    go_wp2_with fail
                    refine (HSP.out _).mono ?_
                    rintro e w1 ⟨a, cap, rfl, hS, hK⟩
                    obtain ⟨hA, hZ, hk, hz⟩ := two_blocks hK
                    have hy := lt_of_block hA
                    have a0 := cell_of_block hA 0
                    have a1 := cell_of_block hA 1
                    have a2 := cell_of_block hA 2
                    have a3 := cell_of_block hA 3
                    have z0 := cell_of_block hZ 0
                    have z1 := cell_of_block hZ 1
                    have z2 := cell_of_block hZ 2
                    have z3 := cell_of_block hZ 3
                    have g0 := frozen_of_block hA 0
                    have g1 := frozen_of_block hA 1
                    have g2 := frozen_of_block hA 2
                    have g3 := frozen_of_block hA 3
                    have f0 := frozen_of_block hZ 0
                    have f1 := frozen_of_block hZ 1
                    have f2 := frozen_of_block hZ 2
                    have f3 := frozen_of_block hZ 3
                    simp at a0 a1 a2 a3 z0 z1 z2 z3
                    have HK := hid hk
                    have HA := hid hA
                    have HZ := hid hZ
                    clear hA hZ hK hk
                    obtain ⟨a', cap', b, off, hv1, hl1, hcap1, ha1, hc1⟩ := id hS
                    injection hv1 with e1 e2 e3
                    subst e1 e3
                    have HS1 := hid hS
                    obtain ⟨rfl, -, hbw⟩ := ha1 hpos
                    have hw0 := (hc1 0 hpos).1
                    have hcp : 0 < cap := by omega
                    clear e2 hl1 hcap1 ha1 hc1 hS
                    rw [Nat.add_zero] at hw0
                    go_wp2
                    refine bodyPost_ret (v := .tuple #[.agg #[.int .i64 stage, .string (bs user), .slice ta tos.length tcap, .string (bs text)], .int .i64 250]) (by simp [results, Tryz.results30, go_sem, z0, z1, z2, z3]) rfl ⟨_, rfl, ⟨_, rfl, HST.out.kept0 ?_, hul, htl⟩, ?_⟩
                    all_goals (repeat' with_reducible first | exact HK.out | refine Kept.setCell ?_ _ _ (by simp))
                  · rw [decide_eq_false q3] at e3
                    by_cases q4 : l = [81, 85, 73, 84]
                    · rw [decide_eq_true q4] at e4
                      have hr2 : restP ⟨stage, user, tos, text⟩ l = (⟨6, [], [], []⟩, 221) := by unfold restP; rw [if_neg q1, if_neg q2, if_neg q3, if_pos q4]
                      rw [hr, hr2]
                      clear hr hr2 q1 q2 q3 q4
                      go_enter Tryz.func30, Tryz.ntmps30
                      go_wp2_with fail
                      refine (HSP.out _).mono ?_
                      rintro e w1 ⟨a, cap, rfl, hS, hK⟩
                      obtain ⟨hA, hZ, hk, hz⟩ := two_blocks hK
                      have hy := lt_of_block hA
                      have a0 := cell_of_block hA 0
                      have a1 := cell_of_block hA 1
                      have a2 := cell_of_block hA 2
                      have a3 := cell_of_block hA 3
                      have z0 := cell_of_block hZ 0
                      have z1 := cell_of_block hZ 1
                      have z2 := cell_of_block hZ 2
                      have z3 := cell_of_block hZ 3
                      have g0 := frozen_of_block hA 0
                      have g1 := frozen_of_block hA 1
                      have g2 := frozen_of_block hA 2
                      have g3 := frozen_of_block hA 3
                      have f0 := frozen_of_block hZ 0
                      have f1 := frozen_of_block hZ 1
                      have f2 := frozen_of_block hZ 2
                      have f3 := frozen_of_block hZ 3
                      simp at a0 a1 a2 a3 z0 z1 z2 z3
                      have HK := hid hk
                      have HA := hid hA
                      have HZ := hid hZ
                      clear hA hZ hK hk
                      obtain ⟨a', cap', b, off, hv1, hl1, hcap1, ha1, hc1⟩ := id hS
                      injection hv1 with e1 e2 e3
                      subst e1 e3
                      have HS1 := hid hS
                      obtain ⟨rfl, -, hbw⟩ := ha1 hpos
                      have hw0 := (hc1 0 hpos).1
                      have hcp : 0 < cap := by omega
                      clear e2 hl1 hcap1 ha1 hc1 hS
                      rw [Nat.add_zero] at hw0
                      go_wp2
                      refine bodyPost_ret (v := .tuple #[.agg #[.int .i64 6, .string ⟨#[]⟩, .slice (some ⟨w1.heap.size, 0, none⟩) 0 0, .string ⟨#[]⟩], .int .i64 221]) (by simp [results, Tryz.results30, go_sem, z0, z1, z2, z3, hz]) rfl ⟨_, rfl, ⟨_, rfl, strs_none _ _ _, Nat.zero_le _, Nat.zero_le _⟩, ?_⟩
                      (repeat' with_reducible first | exact HK.out | refine Kept.setCell ?_ _ _ (by simp) | refine Kept.drewN ?_ _ | refine Kept.drew ?_ | refine Kept.alloc ?_ _)
                    · rw [decide_eq_false q4] at e4
                      have hr2 : restP ⟨stage, user, tos, text⟩ l = (⟨stage, user, tos, text⟩, 500) := by unfold restP; rw [if_neg q1, if_neg q2, if_neg q3, if_neg q4]
                      rw [hr, hr2]
                      clear hr hr2 q1 q2 q3 q4
                      go_enter Tryz.func30, Tryz.ntmps30
                      go_wp2_with fail
                      refine (HSP.out _).mono ?_
                      rintro e w1 ⟨a, cap, rfl, hS, hK⟩
                      obtain ⟨hA, hZ, hk, hz⟩ := two_blocks hK
                      have hy := lt_of_block hA
                      have a0 := cell_of_block hA 0
                      have a1 := cell_of_block hA 1
                      have a2 := cell_of_block hA 2
                      have a3 := cell_of_block hA 3
                      have z0 := cell_of_block hZ 0
                      have z1 := cell_of_block hZ 1
                      have z2 := cell_of_block hZ 2
                      have z3 := cell_of_block hZ 3
                      have g0 := frozen_of_block hA 0
                      have g1 := frozen_of_block hA 1
                      have g2 := frozen_of_block hA 2
                      have g3 := frozen_of_block hA 3
                      have f0 := frozen_of_block hZ 0
                      have f1 := frozen_of_block hZ 1
                      have f2 := frozen_of_block hZ 2
                      have f3 := frozen_of_block hZ 3
                      simp at a0 a1 a2 a3 z0 z1 z2 z3
                      have HK := hid hk
                      have HA := hid hA
                      have HZ := hid hZ
                      clear hA hZ hK hk
                      obtain ⟨a', cap', b, off, hv1, hl1, hcap1, ha1, hc1⟩ := id hS
                      injection hv1 with e1 e2 e3
                      subst e1 e3
                      have HS1 := hid hS
                      obtain ⟨rfl, -, hbw⟩ := ha1 hpos
                      have hw0 := (hc1 0 hpos).1
                      have hcp : 0 < cap := by omega
                      clear e2 hl1 hcap1 ha1 hc1 hS
                      rw [Nat.add_zero] at hw0
                      go_wp2
                      refine bodyPost_ret (v := .tuple #[.agg #[.int .i64 stage, .string (bs user), .slice ta tos.length tcap, .string (bs text)], .int .i64 500]) (by simp [results, Tryz.results30, go_sem, z0, z1, z2, z3]) rfl ⟨_, rfl, ⟨_, rfl, HST.out.kept0 ?_, hul, htl⟩, ?_⟩
                      all_goals (repeat' with_reducible first | exact HK.out | refine Kept.setCell ?_ _ _ (by simp))
end Go.Proofs.YtahiahboneljaaaGreatDoor
namespace Go.Proofs.YtahiahboneljaaaGreatDoor
open Go.RowKit

theorem StrsAt.low {lo lo' : Nat} {w : World} {v : Value} {l : List (List UInt8)} (h : StrsAt lo w v l) (hl : lo' ≤ lo) : StrsAt lo' w v l := by
  obtain ⟨a, cap, b, off, hv, hl1, hc, ha, hcl⟩ := h
  exact ⟨a, cap, b, off, hv, hl1, hc, fun h0 => ⟨(ha h0).1, Nat.le_trans hl (ha h0).2.1, (ha h0).2.2⟩, hcl⟩
theorem strs_noneN (lo : Nat) (w : World) (a : Option Addr) (cap : Nat) : StrsAt lo w (.slice a 0 cap) [] :=
  ⟨a, cap, 0, 0, rfl, Nat.zero_le _, Nat.zero_le _, fun h => absurd h (by simp), fun j hj => absurd hj (by simp)⟩
/-- The same, and its receivers lie in new memory. -/
def SubResN (w : World) (x : Sb × Int) (e : Ending) (w' : World) : Prop := ∃ r, e = .returned (.tuple #[r, .int .i64 x.2]) ∧ SubAt w.heap.size w' r x.1 ∧ Kept [] w w'

set_option maxHeartbeats 1000000 in
theorem sSubLine_new (v uv : Value) (s : Sb) (us : List Usr) (dom l : List UInt8) (w : World) (hu : SubAt 0 w v s) (huu : UsersAt 0 w uv us) (hd : dom.length ≤ bigN) (hl : l.length + 1 ≤ bigN) :
    Calls Tryz.prog 13 #[v, uv, .string (bs dom), .string (bs l)] w (SubResN w (subLineP s us dom l)) := by
  obtain ⟨tv, rfl, hst, hul, htl⟩ := hu
  obtain ⟨ta, tcap, rfl⟩ := hst.form
  obtain ⟨stage, user, tos, text⟩ := s
  dsimp only at hst hul htl ⊢
  obtain ⟨ua, ucap, rfl⟩ := users_form huu
  have HST := hid hst
  have HUU := hid huu
  have HV := hid (fun w h => sSubValid_any 0 (.agg #[.int .i64 stage, .string (bs user), .slice ta tos.length tcap, .string (bs text)]) ⟨stage, user, tos, text⟩ w h)
  have HSA := hid (fun w' (k : Kept [] w w') => show SubAt 0 w' (.agg #[.int .i64 stage, .string (bs user), .slice ta tos.length tcap, .string (bs text)]) ⟨stage, user, tos, text⟩ from ⟨_, rfl, HST.out.kept0 k, hul, htl⟩)
  have HUS := hid (fun w h => sUsersValid_any 0 (.slice ua us.length ucap) us w h)
  have HDO := hid (fun w => sDomainValid_any (bs dom) w (by rw [bs_size]; exact hd))
  rw [bs_toList] at HDO
  clear hst huu
  cases hv : subOk ⟨stage, user, tos, text⟩ with
  | false =>
    have hr : subLineP ⟨stage, user, tos, text⟩ us dom l = (⟨0, [], [], []⟩, -1) := by unfold subLineP; rw [if_neg (by rw [hv]; simp)]
    rw [hr]
    rw [hv] at HV
    clear hr hv
    go_enter Tryz.func13, Tryz.ntmps13
    go_wp2_with fail
    refine (HV.out _ (HSA.out _ (((Kept.refl [] w).alloc _).alloc _))).mono ?_
    rintro e w1 ⟨rfl, hK⟩
    obtain ⟨hA, hZ, hk, hz⟩ := two_blocks hK
    have hy := lt_of_block hA
    have a0 := cell_of_block hA 0
    have a1 := cell_of_block hA 1
    have a2 := cell_of_block hA 2
    have a3 := cell_of_block hA 3
    have z0 := cell_of_block hZ 0
    have z1 := cell_of_block hZ 1
    have z2 := cell_of_block hZ 2
    have z3 := cell_of_block hZ 3
    have g0 := frozen_of_block hA 0
    have g1 := frozen_of_block hA 1
    have g2 := frozen_of_block hA 2
    have g3 := frozen_of_block hA 3
    have f0 := frozen_of_block hZ 0
    have f1 := frozen_of_block hZ 1
    have f2 := frozen_of_block hZ 2
    have f3 := frozen_of_block hZ 3
    simp at a0 a1 a2 a3 z0 z1 z2 z3
    have HK := hid hk
    have HA := hid hA
    have HZ := hid hZ
    clear hA hZ hK hk
    go_wp2
    refine bodyPost_ret (v := .tuple #[.agg #[.int .i64 0, .string ⟨#[]⟩, .slice none 0 0, .string ⟨#[]⟩], .int .i64 (-1)]) (by simp [results, Tryz.results13, go_sem, z0, z1, z2, z3]) rfl ⟨_, rfl, ⟨_, rfl, strs_noneN _ _ _ _, Nat.zero_le _, Nat.zero_le _⟩, ?_⟩
    (repeat' with_reducible first | exact HK.out | refine Kept.setCell ?_ _ _ (by simp) | refine Kept.drewN ?_ _ | refine Kept.drew ?_ | refine Kept.alloc ?_ _)
  | true =>
    have HVV := hid hv
    rw [hv] at HV
    cases huv : usersOk us with
    | false =>
      have hr : subLineP ⟨stage, user, tos, text⟩ us dom l = (⟨0, [], [], []⟩, -1) := by unfold subLineP; rw [if_neg (by rw [huv]; simp)]
      rw [hr]
      rw [huv] at HUS
      clear hr hv huv
      go_enter Tryz.func13, Tryz.ntmps13
      go_wp2_with fail
      refine (HV.out _ (HSA.out _ (((Kept.refl [] w).alloc _).alloc _))).mono ?_
      rintro e w1 ⟨rfl, hK⟩
      obtain ⟨hA, hZ, hk, hz⟩ := two_blocks hK
      have hy := lt_of_block hA
      have a0 := cell_of_block hA 0
      have a1 := cell_of_block hA 1
      have a2 := cell_of_block hA 2
      have a3 := cell_of_block hA 3
      have z0 := cell_of_block hZ 0
      have z1 := cell_of_block hZ 1
      have z2 := cell_of_block hZ 2
      have z3 := cell_of_block hZ 3
      have g0 := frozen_of_block hA 0
      have g1 := frozen_of_block hA 1
      have g2 := frozen_of_block hA 2
      have g3 := frozen_of_block hA 3
      have f0 := frozen_of_block hZ 0
      have f1 := frozen_of_block hZ 1
      have f2 := frozen_of_block hZ 2
      have f3 := frozen_of_block hZ 3
      simp at a0 a1 a2 a3 z0 z1 z2 z3
      have HK := hid hk
      have HA := hid hA
      have HZ := hid hZ
      clear hA hZ hK hk
      go_wp2_with fail
      refine (HUS.out _ (HUU.out.kept0 HK.out)).mono ?_
      rintro e w2 ⟨rfl, hK⟩
      have hA2 := hK.same HA.out (by simp)
      have hZ2 := hK.same HZ.out (by simp)
      clear HA HZ a0 a1 a2 a3 z0 z1 z2 z3 g0 g1 g2 g3 f0 f1 f2 f3 hz hy
      have a0 := cell_of_block hA2 0
      have a1 := cell_of_block hA2 1
      have a2 := cell_of_block hA2 2
      have a3 := cell_of_block hA2 3
      have g0 := frozen_of_block hA2 0
      have g1 := frozen_of_block hA2 1
      have g2 := frozen_of_block hA2 2
      have g3 := frozen_of_block hA2 3
      simp at a0 a1 a2 a3
      have z0 := cell_of_block hZ2 0
      have z1 := cell_of_block hZ2 1
      have z2 := cell_of_block hZ2 2
      have z3 := cell_of_block hZ2 3
      have f0 := frozen_of_block hZ2 0
      have f1 := frozen_of_block hZ2 1
      have f2 := frozen_of_block hZ2 2
      have f3 := frozen_of_block hZ2 3
      simp at z0 z1 z2 z3
      have hz := lt_of_block hZ2
      have hy := lt_of_block hA2
      have HK2 := hid (HK.out.trans hK)
      have HA := hid hA2
      have HZ := hid hZ2
      clear HK hA2 hZ2 hK
      have HK := HK2
      clear HK2
      go_wp2
      refine bodyPost_ret (v := .tuple #[.agg #[.int .i64 0, .string ⟨#[]⟩, .slice none 0 0, .string ⟨#[]⟩], .int .i64 (-1)]) (by simp [results, Tryz.results13, go_sem, z0, z1, z2, z3]) rfl ⟨_, rfl, ⟨_, rfl, strs_noneN _ _ _ _, Nat.zero_le _, Nat.zero_le _⟩, ?_⟩
      (repeat' with_reducible first | exact HK.out | refine Kept.setCell ?_ _ _ (by simp) | refine Kept.drewN ?_ _ | refine Kept.drew ?_ | refine Kept.alloc ?_ _)
    | true =>
      rw [huv] at HUS
      cases hdo : isDomain dom with
      | false =>
        have hr : subLineP ⟨stage, user, tos, text⟩ us dom l = (⟨0, [], [], []⟩, -1) := by unfold subLineP; rw [if_neg (by rw [hdo]; simp)]
        rw [hr]
        rw [hdo] at HDO
        clear hr hv huv hdo
        go_enter Tryz.func13, Tryz.ntmps13
        go_wp2_with fail
        refine (HV.out _ (HSA.out _ (((Kept.refl [] w).alloc _).alloc _))).mono ?_
        rintro e w1 ⟨rfl, hK⟩
        obtain ⟨hA, hZ, hk, hz⟩ := two_blocks hK
        have hy := lt_of_block hA
        have a0 := cell_of_block hA 0
        have a1 := cell_of_block hA 1
        have a2 := cell_of_block hA 2
        have a3 := cell_of_block hA 3
        have z0 := cell_of_block hZ 0
        have z1 := cell_of_block hZ 1
        have z2 := cell_of_block hZ 2
        have z3 := cell_of_block hZ 3
        have g0 := frozen_of_block hA 0
        have g1 := frozen_of_block hA 1
        have g2 := frozen_of_block hA 2
        have g3 := frozen_of_block hA 3
        have f0 := frozen_of_block hZ 0
        have f1 := frozen_of_block hZ 1
        have f2 := frozen_of_block hZ 2
        have f3 := frozen_of_block hZ 3
        simp at a0 a1 a2 a3 z0 z1 z2 z3
        have HK := hid hk
        have HA := hid hA
        have HZ := hid hZ
        clear hA hZ hK hk
        go_wp2_with fail
        refine (HUS.out _ (HUU.out.kept0 HK.out)).mono ?_
        rintro e w2 ⟨rfl, hK⟩
        have hA2 := hK.same HA.out (by simp)
        have hZ2 := hK.same HZ.out (by simp)
        clear HA HZ a0 a1 a2 a3 z0 z1 z2 z3 g0 g1 g2 g3 f0 f1 f2 f3 hz hy
        have a0 := cell_of_block hA2 0
        have a1 := cell_of_block hA2 1
        have a2 := cell_of_block hA2 2
        have a3 := cell_of_block hA2 3
        have g0 := frozen_of_block hA2 0
        have g1 := frozen_of_block hA2 1
        have g2 := frozen_of_block hA2 2
        have g3 := frozen_of_block hA2 3
        simp at a0 a1 a2 a3
        have z0 := cell_of_block hZ2 0
        have z1 := cell_of_block hZ2 1
        have z2 := cell_of_block hZ2 2
        have z3 := cell_of_block hZ2 3
        have f0 := frozen_of_block hZ2 0
        have f1 := frozen_of_block hZ2 1
        have f2 := frozen_of_block hZ2 2
        have f3 := frozen_of_block hZ2 3
        simp at z0 z1 z2 z3
        have hz := lt_of_block hZ2
        have hy := lt_of_block hA2
        have HK2 := hid (HK.out.trans hK)
        have HA := hid hA2
        have HZ := hid hZ2
        clear HK hA2 hZ2 hK
        have HK := HK2
        clear HK2
        go_wp2_with fail
        refine (HDO.out _).mono ?_
        rintro e w3 ⟨rfl, hK⟩
        have hA2 := hK.same HA.out (by simp)
        have hZ2 := hK.same HZ.out (by simp)
        clear HA HZ a0 a1 a2 a3 z0 z1 z2 z3 g0 g1 g2 g3 f0 f1 f2 f3 hz hy
        have a0 := cell_of_block hA2 0
        have a1 := cell_of_block hA2 1
        have a2 := cell_of_block hA2 2
        have a3 := cell_of_block hA2 3
        have g0 := frozen_of_block hA2 0
        have g1 := frozen_of_block hA2 1
        have g2 := frozen_of_block hA2 2
        have g3 := frozen_of_block hA2 3
        simp at a0 a1 a2 a3
        have z0 := cell_of_block hZ2 0
        have z1 := cell_of_block hZ2 1
        have z2 := cell_of_block hZ2 2
        have z3 := cell_of_block hZ2 3
        have f0 := frozen_of_block hZ2 0
        have f1 := frozen_of_block hZ2 1
        have f2 := frozen_of_block hZ2 2
        have f3 := frozen_of_block hZ2 3
        simp at z0 z1 z2 z3
        have hz := lt_of_block hZ2
        have hy := lt_of_block hA2
        have HK2 := hid (HK.out.trans hK)
        have HA := hid hA2
        have HZ := hid hZ2
        clear HK hA2 hZ2 hK
        have HK := HK2
        clear HK2
        go_wp2
        refine bodyPost_ret (v := .tuple #[.agg #[.int .i64 0, .string ⟨#[]⟩, .slice none 0 0, .string ⟨#[]⟩], .int .i64 (-1)]) (by simp [results, Tryz.results13, go_sem, z0, z1, z2, z3]) rfl ⟨_, rfl, ⟨_, rfl, strs_noneN _ _ _ _, Nat.zero_le _, Nat.zero_le _⟩, ?_⟩
        (repeat' with_reducible first | exact HK.out | refine Kept.setCell ?_ _ _ (by simp) | refine Kept.drewN ?_ _ | refine Kept.drew ?_ | refine Kept.alloc ?_ _)
      | true =>
        have hr : subLineP ⟨stage, user, tos, text⟩ us dom l = lineP ⟨stage, user, tos, text⟩ us dom l := by unfold subLineP; rw [if_pos ⟨hv, huv, hdo⟩]
        rw [hr]
        rw [hdo] at HDO
        have hok := line_ok (us := us) (dom := dom) (l := l) hv
        have HLN := hid (fun w v uv h h2 => sLine_any v uv ⟨stage, user, tos, text⟩ us dom l w h h2 hv hl)
        generalize lineP ⟨stage, user, tos, text⟩ us dom l = x at hok HLN
        have HOK := hid hok
        clear hr hv huv hdo hok
        go_enter Tryz.func13, Tryz.ntmps13
        go_wp2_with fail
        refine (HV.out _ (HSA.out _ (((Kept.refl [] w).alloc _).alloc _))).mono ?_
        rintro e w1 ⟨rfl, hK⟩
        obtain ⟨hA, hZ, hk, hz⟩ := two_blocks hK
        have hy := lt_of_block hA
        have a0 := cell_of_block hA 0
        have a1 := cell_of_block hA 1
        have a2 := cell_of_block hA 2
        have a3 := cell_of_block hA 3
        have z0 := cell_of_block hZ 0
        have z1 := cell_of_block hZ 1
        have z2 := cell_of_block hZ 2
        have z3 := cell_of_block hZ 3
        have g0 := frozen_of_block hA 0
        have g1 := frozen_of_block hA 1
        have g2 := frozen_of_block hA 2
        have g3 := frozen_of_block hA 3
        have f0 := frozen_of_block hZ 0
        have f1 := frozen_of_block hZ 1
        have f2 := frozen_of_block hZ 2
        have f3 := frozen_of_block hZ 3
        simp at a0 a1 a2 a3 z0 z1 z2 z3
        have HK := hid hk
        have HA := hid hA
        have HZ := hid hZ
        clear hA hZ hK hk
        go_wp2_with fail
        refine (HUS.out _ (HUU.out.kept0 HK.out)).mono ?_
        rintro e w2 ⟨rfl, hK⟩
        have hA2 := hK.same HA.out (by simp)
        have hZ2 := hK.same HZ.out (by simp)
        clear HA HZ a0 a1 a2 a3 z0 z1 z2 z3 g0 g1 g2 g3 f0 f1 f2 f3 hz hy
        have a0 := cell_of_block hA2 0
        have a1 := cell_of_block hA2 1
        have a2 := cell_of_block hA2 2
        have a3 := cell_of_block hA2 3
        have g0 := frozen_of_block hA2 0
        have g1 := frozen_of_block hA2 1
        have g2 := frozen_of_block hA2 2
        have g3 := frozen_of_block hA2 3
        simp at a0 a1 a2 a3
        have z0 := cell_of_block hZ2 0
        have z1 := cell_of_block hZ2 1
        have z2 := cell_of_block hZ2 2
        have z3 := cell_of_block hZ2 3
        have f0 := frozen_of_block hZ2 0
        have f1 := frozen_of_block hZ2 1
        have f2 := frozen_of_block hZ2 2
        have f3 := frozen_of_block hZ2 3
        simp at z0 z1 z2 z3
        have hz := lt_of_block hZ2
        have hy := lt_of_block hA2
        have HK2 := hid (HK.out.trans hK)
        have HA := hid hA2
        have HZ := hid hZ2
        clear HK hA2 hZ2 hK
        have HK := HK2
        clear HK2
        go_wp2_with fail
        refine (HDO.out _).mono ?_
        rintro e w3 ⟨rfl, hK⟩
        have hA2 := hK.same HA.out (by simp)
        have hZ2 := hK.same HZ.out (by simp)
        clear HA HZ a0 a1 a2 a3 z0 z1 z2 z3 g0 g1 g2 g3 f0 f1 f2 f3 hz hy
        have a0 := cell_of_block hA2 0
        have a1 := cell_of_block hA2 1
        have a2 := cell_of_block hA2 2
        have a3 := cell_of_block hA2 3
        have g0 := frozen_of_block hA2 0
        have g1 := frozen_of_block hA2 1
        have g2 := frozen_of_block hA2 2
        have g3 := frozen_of_block hA2 3
        simp at a0 a1 a2 a3
        have z0 := cell_of_block hZ2 0
        have z1 := cell_of_block hZ2 1
        have z2 := cell_of_block hZ2 2
        have z3 := cell_of_block hZ2 3
        have f0 := frozen_of_block hZ2 0
        have f1 := frozen_of_block hZ2 1
        have f2 := frozen_of_block hZ2 2
        have f3 := frozen_of_block hZ2 3
        simp at z0 z1 z2 z3
        have hz := lt_of_block hZ2
        have hy := lt_of_block hA2
        have HK2 := hid (HK.out.trans hK)
        have HA := hid hA2
        have HZ := hid hZ2
        clear HK hA2 hZ2 hK
        have HK := HK2
        clear HK2
        go_wp2_with fail
        refine (HLN.out _ _ _ (HSA.out _ HK.out) (HUU.out.kept0 HK.out)).mono ?_
        rintro e w4 ⟨r, rfl, ⟨tv4, rfl, hs4, hu4, ht4⟩, hK⟩
        obtain ⟨ra, rcap, rfl⟩ := hs4.form
        have HS4 := hid hs4
        have HU4 := hid hu4
        have HT4 := hid ht4
        clear hs4 hu4 ht4
        have hA2 := hK.same HA.out (by simp)
        have hZ2 := hK.same HZ.out (by simp)
        clear HA HZ a0 a1 a2 a3 z0 z1 z2 z3 g0 g1 g2 g3 f0 f1 f2 f3 hz hy
        have a0 := cell_of_block hA2 0
        have a1 := cell_of_block hA2 1
        have a2 := cell_of_block hA2 2
        have a3 := cell_of_block hA2 3
        have g0 := frozen_of_block hA2 0
        have g1 := frozen_of_block hA2 1
        have g2 := frozen_of_block hA2 2
        have g3 := frozen_of_block hA2 3
        simp at a0 a1 a2 a3
        have z0 := cell_of_block hZ2 0
        have z1 := cell_of_block hZ2 1
        have z2 := cell_of_block hZ2 2
        have z3 := cell_of_block hZ2 3
        have f0 := frozen_of_block hZ2 0
        have f1 := frozen_of_block hZ2 1
        have f2 := frozen_of_block hZ2 2
        have f3 := frozen_of_block hZ2 3
        simp at z0 z1 z2 z3
        have hz := lt_of_block hZ2
        have hy := lt_of_block hA2
        have HK2 := hid (HK.out.trans hK)
        have HA := hid hA2
        have HZ := hid hZ2
        clear HK hA2 hZ2 hK
        have HK := HK2
        clear HK2
        go_wp2_with (at_builtin; refine append_strs rfl (.tmp 34) (.tmp 36) rfl (w4.heap.size + 1) (w4.heap.size + 1) rfl (own_none _ _ _ (by simp) (Nat.le_refl _)) _ x.1.to rfl (HS4.out.kept0 (((Kept.refl [] w4).alloc _).alloc _)) (by simp) ?_; intro a5 c5 w5 hown5 hg5; have hb5 := sub_post hg5; have d0 := cell_of_block hb5 0; have d1 := cell_of_block hb5 1; have d2 := cell_of_block hb5 2; have d3 := cell_of_block hb5 3; have e2 := frozen_of_block hb5 2; have hl5 := lt_of_block hb5; simp at d0 d1 d2 d3; have hk5 : Kept [] w4 w5 := (((Kept.refl [] w4).alloc _).alloc _).grown hg5 (fun k e hk => by injection e with e; omega); have HO5 := hid hown5; have hZ5 := hk5.same HZ.out (by simp); have z0' := cell_of_block hZ5 0; have z1' := cell_of_block hZ5 1; have z2' := cell_of_block hZ5 2; have z3' := cell_of_block hZ5 3; have f0' := frozen_of_block hZ5 0; have f1' := frozen_of_block hZ5 1; have f2' := frozen_of_block hZ5 2; have f3' := frozen_of_block hZ5 3; have hz5 := lt_of_block hZ5; simp at z0' z1' z2' z3'; have HK5 := hid hk5; clear hb5 hown5 hg5 hZ5 hk5)
        have hS5 := strs_own_lo HO5.out (by have := (subOk_use HOK.out).2.2.2.2.2.2.1; unfold bigN; omega) (to_names HOK.out)
        refine bodyPost_ret (v := .tuple #[.agg #[.int .i64 x.1.stage, .string (bs x.1.user), .slice a5 x.1.to.length c5, .string (bs x.1.text)], .int .i64 x.2]) (by simp [results, Tryz.results13, go_sem, z0', z1', z2', z3']) rfl ⟨_, rfl, ⟨_, rfl, (hS5.kept (bs := [w4.heap.size, w.heap.size + 1]) ?_ ?_).low (by have := HK.out.size; omega), HU4.out, HT4.out⟩, ?_⟩
        · (repeat' with_reducible first | exact Kept.refl _ _ | refine Kept.setCell ?_ _ _ (by simp))
        · intro b hb
          have : b = w4.heap.size ∨ b = w.heap.size + 1 := by simpa using hb
          left; omega
        · have hk := HK.out.trans HK5.out
          have hw4 := HK.out.size
          (repeat' with_reducible first | exact hk | refine Kept.setCell ?_ _ _ (by first | (simp; done) | (simp; omega)))
theorem sSubLine_any (v uv : Value) (s : Sb) (us : List Usr) (dom l : List UInt8) (w : World) (hu : SubAt 0 w v s) (huu : UsersAt 0 w uv us) (hd : dom.length ≤ bigN) (hl : l.length + 1 ≤ bigN) :
    Calls Tryz.prog 13 #[v, uv, .string (bs dom), .string (bs l)] w (SubRes w (subLineP s us dom l)) := by
  refine (sSubLine_new v uv s us dom l w hu huu hd hl).mono ?_
  rintro e w' ⟨r, he, ⟨tv, h1, h2, h3⟩, hK⟩
  exact ⟨r, he, ⟨tv, h1, h2.lo, h3⟩, hK⟩
end Go.Proofs.YtahiahboneljaaaGreatDoor
