/- The walks of SubmissionLine (impl). -/
import Derived.Test.YtahiahboneljaaaGreatDoorKWh
import Derived.Test.YtahiahboneljaaaGreatDoorKWe
import Derived.Test.YtahiahboneljaaaGreatDoorKWf
import Derived.Test.YtahiahboneljaaaGreatDoorKP
namespace Go.Proofs.YtahiahboneljaaaGreatDoor
open Go.RowKit

theorem prove_any (w0 w : World) (p : Nat) (s : Sb) (us : List Usr) (dom : List UInt8) (v : Value) (ws : List (List UInt8)) (m : Int) (h : PostAt w0 p w s us dom) (hv : subOk s = true) (hw : StrsAt 0 w v ws) (hm : w.cell? ⟨0, 0, none⟩ = some (.int .i64 m)) :
    Calls Tryz.prog 47 #[.pointer (some ⟨p, 0, none⟩), v] w fun e w' => e = .returned (.int .i64 (authP s us ws).2) ∧ PostAt w0 p w' (authP s us ws).1 us dom := by
  obtain ⟨tv, uv, -, -, hu, c0, -, -, -, c4, -, hf, hpl⟩ := h.use
  obtain ⟨-, -, gu, gx, gt, -, -, -⟩ := subOk_use hv
  obtain ⟨a, cap, b, off, rfl, hl, hcap, ha, hc⟩ := hw
  have f0 := hf 0
  have f1 := hf 1
  have HP := hid h
  have HM := hid hm
  have HU := hid hu
  clear h hf hm hu
  by_cases h1 : s.stage = 1
  · have htx : s.text = [] := gx (by omega)
    have hto : s.to = [] := gt (by omega) (by omega)
    have HX := hid htx
    have HT := hid hto
    rw [h1] at c0
    by_cases h3 : ws.length = 3
    · obtain ⟨rfl, -, hbw⟩ := ha (by omega)
      have hl1 : 1 < ws.length := by omega
      have hl2 : 2 < ws.length := by omega
      obtain ⟨hc1, hs1⟩ := hc 1 hl1
      obtain ⟨hc2, hs2⟩ := hc 2 hl2
      have hcap1 : (1 : Int) < ws.length := by omega
      have hcap2 : (2 : Int) < ws.length := by omega
      have hlen : (ws.length : Int) = 3 := by omega
      have hg1 : ws.getD 1 [] = ws[1] := by simp [List.getD, List.getElem?_eq_getElem (by omega : 1 < ws.length)]
      have hg2 : ws.getD 2 [] = ws[2] := by simp [List.getD, List.getElem?_eq_getElem (by omega : 2 < ws.length)]
      have hst : ((bs ws[1]).toList == [80, 76, 65, 73, 78]) = decide (ws[1] = plainW) := by
        have := str_eq (bs ws[1]) [80, 76, 65, 73, 78]
        rw [bs_toList] at this
        exact this
      by_cases hpw : ws[1] = plainW
      · have hr : authP s us ws = match plainU us ws[2] with | none => (s, 535) | some n => (⟨2, n, [], []⟩, 235) := by
          unfold authP; rw [if_neg (by omega), if_neg (by rw [hg1]; exact fun e => e ⟨h3, hpw⟩), hg2]
          cases plainU us ws[2] <;> rfl
        rw [decide_eq_true hpw] at hst
        have HC := hid hc
        generalize hy2 : ws[2] = y2 at hr hc2 hs2
        have HCL := hid (fun W (hK : Kept [] w W) => iUsersPlain_any uv us y2 m W (HU.out.kept0 (HP.out.kept.trans hK)) hs2 (hK.cell_some HM.out (by simp)))
        have hck : ∀ W, Kept [] w W → W.cell? ⟨p, 4, none⟩ = some uv ∧ W.cell? ⟨b, off + 2, none⟩ = some (.string (bs y2)) := fun W hW => ⟨hW.cell_some c4 (by simp), hW.cell_some hc2 (by simp)⟩
        have CK := hid hck
        clear hc ha hck hy2 hg1 hg2 hpw h3 h1 htx hto gx gt gu
        cases hpu : plainU us y2 with
        | none =>
          rw [hpu] at hr HCL
          have HR := hid hr
          clear hr hpu
          go_enter Tryz.func47, Tryz.ntmps47
          go_wp2
          go_region_held3 (fun w' => w'.cell? ⟨p, 4, none⟩ = some uv ∧ w'.cell? ⟨b, off + 2, none⟩ = some (.string (bs y2)))
            (first
              | exact CK.out _ (by repeat' with_reducible first | exact hKK | exact Kept.refl _ _ | refine Kept.drew ?_ | refine Kept.alloc ?_ _))
            ((go_at_call 72; refine (HCL.out _ (by repeat' with_reducible first | exact Kept.refl _ _ | refine Kept.drew ?_ | refine Kept.alloc ?_ _)).mono ?_; rintro e w2 ⟨rfl, hK2⟩; have hKK := Kept.trans (a := w) (by repeat' with_reducible first | exact Kept.refl _ _ | refine Kept.drew ?_ | refine Kept.alloc ?_ _) hK2; rw [show upRes none = .tuple #[.string ⟨#[]⟩, .bool false] from rfl]))
          all_goals
            go_wp2
            go_ret
            rw [HR.out]
            exact ⟨rfl, HP.out.keep hKK⟩
        | some n =>
          rw [hpu] at hr HCL
          have HR := hid hr
          clear hr hpu
          go_enter Tryz.func47, Tryz.ntmps47
          go_wp2
          go_region_held3 (fun w' => w'.cell? ⟨p, 4, none⟩ = some uv ∧ w'.cell? ⟨b, off + 2, none⟩ = some (.string (bs y2)))
            (first
              | exact CK.out _ (by repeat' with_reducible first | exact hKK | exact Kept.refl _ _ | refine Kept.drew ?_ | refine Kept.alloc ?_ _))
            ((go_at_call 72; refine (HCL.out _ (by repeat' with_reducible first | exact Kept.refl _ _ | refine Kept.drew ?_ | refine Kept.alloc ?_ _)).mono ?_; rintro e w2 ⟨rfl, hK2⟩; have hKK := Kept.trans (a := w) (by repeat' with_reducible first | exact Kept.refl _ _ | refine Kept.drew ?_ | refine Kept.alloc ?_ _) hK2; rw [show upRes (some n) = .tuple #[.string (bs n), .bool true] from rfl]))
          all_goals
            have hP3 := HP.out.keep hKK
            obtain ⟨tv3, uv3, -, -, -, d0, d1, -, -, -, -, hf3, hpl3⟩ := hP3.use
            have e0 := hf3 0
            have e1 := hf3 1
            have HP3 := hid hP3
            clear hP3 hf3
            go_wp2
            go_ret
            rw [HR.out]
            refine ⟨rfl, ((HP3.out.stage 2).named n).same ?_⟩
            rw [HX.out, HT.out]
      · have hr : authP s us ws = (s, 501) := by
          unfold authP; rw [if_neg (by omega), if_pos (by rw [hg1]; exact fun e => hpw e.2)]
        rw [decide_eq_false hpw] at hst
        rw [hr]
        have HC := hid hc
        clear hr hc ha hg1 hg2 hpw h3 h1 htx hto gx gt gu
        go_enter Tryz.func47, Tryz.ntmps47
        go_wp2
        go_ret
        exact ⟨rfl, HP.out⟩
    · have hr : authP s us ws = (s, 501) := by unfold authP; rw [if_neg (by omega), if_pos (fun e => h3 e.1)]
      have hlen : ((ws.length : Int) == 3) = false := by rw [beq_eq_false_iff_ne]; omega
      have hlen' : ((ws.length : Int) != 3) = true := by simp; omega
      rw [hr]
      clear hr hc ha h3 h1 htx hto gx gt gu
      go_enter Tryz.func47, Tryz.ntmps47
      go_wp2
      go_ret
      exact ⟨rfl, HP.out⟩
  · have hr : authP s us ws = (s, 503) := by unfold authP; rw [if_pos h1]
    have h1' : (s.stage != 1) = true := by simpa using h1
    rw [hr]
    clear hr hc ha h1 gx gt gu
    go_enter Tryz.func47, Tryz.ntmps47
    go_wp2
    go_ret
    exact ⟨rfl, HP.out⟩
end Go.Proofs.YtahiahboneljaaaGreatDoor
namespace Go.Proofs.YtahiahboneljaaaGreatDoor
open Go.RowKit

theorem split_any (l : List UInt8) (m : Int) (w : World) (hs : l.length + 1 ≤ bigN) (hm : w.cell? ⟨0, 0, none⟩ = some (.int .i64 m)) :
    Calls Tryz.prog 45 #[.string (bs l), .string ⟨#[32]⟩] w fun e w' => ∃ a cap, e = .returned (.slice a (cutB 32 l).length cap) ∧ StrsAt 0 w' (.slice a (cutB 32 l).length cap) (cutB 32 l) ∧ Kept [] w w' := by
  have h := Tryz.strings_Split (bs l) ⟨#[32]⟩ m w (by rw [bs_size]; unfold bigN at hs; omega) hm (by decide)
  have hc : Lib.countB (bs l) ⟨#[32]⟩ + 1 = (cutB 32 l).length := by
    rw [count_cut]
    have : Lib.countB (bs l) ⟨#[32]⟩ = l.count 32 := by
      have := Lib.count_one 32 (bs l).data.toList
      rw [bs_toList] at this
      exact (show Lib.countB (bs l) ⟨#[32]⟩ = Lib.count (bs l).data.toList [32] from rfl).trans (by rw [bs_toList]; exact this)
    rw [this]
  have hsp := split_strs (bs l) 32
  rw [bs_toList] at hsp
  rw [hc, hsp] at h
  refine h.mono ?_
  rintro e w' ⟨rfl, rfl⟩
  have hlen := cutB_len 32 l
  refine ⟨_, _, rfl, ⟨_, _, w.heap.size, 0, rfl, ?_, Nat.le_refl _, fun _ => ⟨rfl, Nat.zero_le _, by simp⟩, fun j hj => ⟨?_, ?_⟩⟩, (Kept.refl _ _).alloc _⟩
  · omega
  · rw [cell_of_block (new_block w _), Nat.zero_add]
    simp [List.getElem?_eq_getElem hj]
  · exact Nat.le_trans (cutB_part 32 l _ (List.getElem_mem hj)) (by omega)

theorem handle_any (w0 w : World) (p : Nat) (s : Sb) (us : List Usr) (dom l : List UInt8) (m : Int) (h : PostAt w0 p w s us dom) (hv : subOk s = true) (huv : usersOk us = true) (hl : l.length + 1 ≤ bigN) (hm : w.cell? ⟨0, 0, none⟩ = some (.int .i64 m)) :
    Calls Tryz.prog 26 #[.pointer (some ⟨p, 0, none⟩), .string (bs l)] w fun e w' => e = .returned (.int .i64 (lineP s us dom l).2) ∧ PostAt w0 p w' (lineP s us dom l).1 us dom := by
  obtain ⟨tv, uv, -, -, -, c0, -, -, -, -, -, hf, hpl⟩ := h.use
  have HP := hid h
  have HM := hid hm
  have hls : (bs l).size ≤ bigN := by rw [bs_size]; omega
  clear h hf hm
  by_cases h6 : s.stage = 6
  · have hr : lineP s us dom l = (s, 503) := by unfold lineP; rw [if_pos h6]
    rw [hr]
    rw [h6] at c0
    clear hr h6
    go_enter Tryz.func26, Tryz.ntmps26
    go_wp2
    go_ret
    exact ⟨rfl, HP.out⟩
  · by_cases h5 : s.stage = 5
    · have hr : lineP s us dom l = dataP s l := by unfold lineP; rw [if_neg h6, if_pos h5]
      have hd := data_any w0 w p s us dom (bs l) HP.out hv hls
      rw [bs_toList] at hd
      have HD := hid hd
      rw [hr]
      rw [h5] at c0
      clear hr h6 h5 hd
      go_enter Tryz.func26, Tryz.ntmps26
      go_wp2_with fail
      refine HD.out.mono ?_
      rintro e w1 ⟨rfl, hP⟩
      go_wp2
      go_ret
      exact ⟨rfl, hP⟩
    · have g6 : (s.stage == 6) = false := by simpa using h6
      have g5 : (s.stage == 5) = false := by simpa using h5
      have HSP := hid (fun w h => split_any l m w hl h)
      have hpos := cutB_pos 32 l
      have hg0 : (cutB 32 l).getD 0 [] = (cutB 32 l)[0] := by simp [List.getD, List.getElem?_eq_getElem hpos]
      have hr : lineP s us dom l = if (cutB 32 l)[0] = [69, 72, 76, 79] then helloP s (cutB 32 l) else if (cutB 32 l)[0] = [65, 85, 84, 72] then authP s us (cutB 32 l)
          else if (cutB 32 l)[0] = [77, 65, 73, 76] then mailP s dom l else if (cutB 32 l)[0] = [82, 67, 80, 84] then toP s us dom l else restP s l := by
        unfold lineP; rw [if_neg h6, if_neg h5, hg0]
      generalize hL : cutB 32 l = L at HSP hpos hr
      clear hL hg0 h6 h5
      have t1 : ((bs L[0]).toList == [69, 72, 76, 79]) = decide (L[0] = [69, 72, 76, 79]) := by have := str_eq (bs L[0]) [69, 72, 76, 79]; rwa [bs_toList] at this
      have t2 : ((bs L[0]).toList == [65, 85, 84, 72]) = decide (L[0] = [65, 85, 84, 72]) := by have := str_eq (bs L[0]) [65, 85, 84, 72]; rwa [bs_toList] at this
      have t3 : ((bs L[0]).toList == [77, 65, 73, 76]) = decide (L[0] = [77, 65, 73, 76]) := by have := str_eq (bs L[0]) [77, 65, 73, 76]; rwa [bs_toList] at this
      have t4 : ((bs L[0]).toList == [82, 67, 80, 84]) = decide (L[0] = [82, 67, 80, 84]) := by have := str_eq (bs L[0]) [82, 67, 80, 84]; rwa [bs_toList] at this
      by_cases q1 : L[0] = [69, 72, 76, 79]
      · rw [if_pos q1] at hr
        rw [decide_eq_true q1] at t1
        rw [hr]
        clear hr q1 t2 t3 t4
        go_enter Tryz.func26, Tryz.ntmps26
        go_wp2_with fail
        refine (HSP.out _ HM.out).mono ?_
        rintro e w1 ⟨a, cap, rfl, hS, hK⟩
        have hP1 := HP.out.keep hK
        have HP1 := hid hP1
        have HM1 := hid (hK.cell_some HM.out (by simp))
        obtain ⟨a', cap', b, off, hv1, hl1, hcap1, ha1, hc1⟩ := id hS
        injection hv1 with e1 e2 e3
        subst e1 e3
        have HS1 := hid hS
        obtain ⟨rfl, -, hbw⟩ := ha1 hpos
        have hw0 := (hc1 0 hpos).1
        have hcp : 0 < cap := by omega
        clear e2 hl1 hcap1 ha1 hc1 hP1 hK hS
        rw [Nat.add_zero] at hw0
        go_wp2_with fail
        refine (hello_any w0 _ p s us dom _ L HP1.out hv HS1.out).mono ?_
        rintro e w2 ⟨rfl, hP⟩
        go_wp2
        go_ret
        exact ⟨rfl, hP⟩
      · rw [if_neg q1] at hr
        rw [decide_eq_false q1] at t1
        by_cases q2 : L[0] = [65, 85, 84, 72]
        · rw [if_pos q2] at hr
          rw [decide_eq_true q2] at t2
          rw [hr]
          clear hr q1 q2 t3 t4
          go_enter Tryz.func26, Tryz.ntmps26
          go_wp2_with fail
          refine (HSP.out _ HM.out).mono ?_
          rintro e w1 ⟨a, cap, rfl, hS, hK⟩
          have hP1 := HP.out.keep hK
          have HP1 := hid hP1
          have HM1 := hid (hK.cell_some HM.out (by simp))
          obtain ⟨a', cap', b, off, hv1, hl1, hcap1, ha1, hc1⟩ := id hS
          injection hv1 with e1 e2 e3
          subst e1 e3
          have HS1 := hid hS
          obtain ⟨rfl, -, hbw⟩ := ha1 hpos
          have hw0 := (hc1 0 hpos).1
          have hcp : 0 < cap := by omega
          clear e2 hl1 hcap1 ha1 hc1 hP1 hK hS
          rw [Nat.add_zero] at hw0
          go_wp2_with fail
          refine (prove_any w0 _ p s us dom _ L m HP1.out hv HS1.out HM1.out).mono ?_
          rintro e w2 ⟨rfl, hP⟩
          go_wp2
          go_ret
          exact ⟨rfl, hP⟩
        · rw [if_neg q2] at hr
          rw [decide_eq_false q2] at t2
          by_cases q3 : L[0] = [77, 65, 73, 76]
          · rw [if_pos q3] at hr
            rw [decide_eq_true q3] at t3
            have HD := hid (fun w h => sender_any w0 w p s us dom (bs l) h hls)
            rw [bs_toList] at HD
            rw [hr]
            clear hr q1 q2 q3 t4
            go_enter Tryz.func26, Tryz.ntmps26
            go_wp2_with fail
            refine (HSP.out _ HM.out).mono ?_
            rintro e w1 ⟨a, cap, rfl, hS, hK⟩
            have hP1 := HP.out.keep hK
            have HP1 := hid hP1
            have HM1 := hid (hK.cell_some HM.out (by simp))
            obtain ⟨a', cap', b, off, hv1, hl1, hcap1, ha1, hc1⟩ := id hS
            injection hv1 with e1 e2 e3
            subst e1 e3
            have HS1 := hid hS
            obtain ⟨rfl, -, hbw⟩ := ha1 hpos
            have hw0 := (hc1 0 hpos).1
            have hcp : 0 < cap := by omega
            clear e2 hl1 hcap1 ha1 hc1 hP1 hK hS
            rw [Nat.add_zero] at hw0
            go_wp2_with fail
            refine (HD.out _ HP1.out).mono ?_
            rintro e w2 ⟨rfl, hP⟩
            go_wp2
            go_ret
            exact ⟨rfl, hP⟩
          · rw [if_neg q3] at hr
            rw [decide_eq_false q3] at t3
            by_cases q4 : L[0] = [82, 67, 80, 84]
            · rw [if_pos q4] at hr
              rw [decide_eq_true q4] at t4
              have HD := hid (fun w h => receiver_any w0 w p s us dom (bs l) h hv huv hls)
              rw [bs_toList] at HD
              rw [hr]
              clear hr q1 q2 q3 q4
              go_enter Tryz.func26, Tryz.ntmps26
              go_wp2_with fail
              refine (HSP.out _ HM.out).mono ?_
              rintro e w1 ⟨a, cap, rfl, hS, hK⟩
              have hP1 := HP.out.keep hK
              have HP1 := hid hP1
              have HM1 := hid (hK.cell_some HM.out (by simp))
              obtain ⟨a', cap', b, off, hv1, hl1, hcap1, ha1, hc1⟩ := id hS
              injection hv1 with e1 e2 e3
              subst e1 e3
              have HS1 := hid hS
              obtain ⟨rfl, -, hbw⟩ := ha1 hpos
              have hw0 := (hc1 0 hpos).1
              have hcp : 0 < cap := by omega
              clear e2 hl1 hcap1 ha1 hc1 hP1 hK hS
              rw [Nat.add_zero] at hw0
              go_wp2_with fail
              refine (HD.out _ HP1.out).mono ?_
              rintro e w2 ⟨rfl, hP⟩
              go_wp2
              go_ret
              exact ⟨rfl, hP⟩
            · rw [if_neg q4] at hr
              rw [decide_eq_false q4] at t4
              have HD := hid (fun w h => plain_any w0 w p s us dom (bs l) h hv)
              rw [bs_toList] at HD
              rw [hr]
              clear hr q1 q2 q3 q4
              go_enter Tryz.func26, Tryz.ntmps26
              go_wp2_with fail
              refine (HSP.out _ HM.out).mono ?_
              rintro e w1 ⟨a, cap, rfl, hS, hK⟩
              have hP1 := HP.out.keep hK
              have HP1 := hid hP1
              have HM1 := hid (hK.cell_some HM.out (by simp))
              obtain ⟨a', cap', b, off, hv1, hl1, hcap1, ha1, hc1⟩ := id hS
              injection hv1 with e1 e2 e3
              subst e1 e3
              have HS1 := hid hS
              obtain ⟨rfl, -, hbw⟩ := ha1 hpos
              have hw0 := (hc1 0 hpos).1
              have hcp : 0 < cap := by omega
              clear e2 hl1 hcap1 ha1 hc1 hP1 hK hS
              rw [Nat.add_zero] at hw0
              go_wp2_with fail
              refine (HD.out _ HP1.out).mono ?_
              rintro e w2 ⟨rfl, hP⟩
              go_wp2
              go_ret
              exact ⟨rfl, hP⟩
end Go.Proofs.YtahiahboneljaaaGreatDoor
namespace Go.Proofs.YtahiahboneljaaaGreatDoor
open Go.RowKit

/-- What SubmissionLine hands back. -/
def SubRes (w : World) (x : Sb × Int) (e : Ending) (w' : World) : Prop := ∃ r, e = .returned (.tuple #[r, .int .i64 x.2]) ∧ SubAt 0 w' r x.1 ∧ Kept [] w w'

theorem users_form {lo : Nat} {w : World} {v : Value} {us : List Usr} (h : UsersAt lo w v us) : ∃ a cap, v = .slice a us.length cap := by
  obtain ⟨a, cap, b, off, hv, -⟩ := h; exact ⟨a, cap, hv⟩
theorem sub_post {w w4 : World} {X : Obj} {o : Obj} (h : ((w.alloc o).alloc X).grownBy w4 (some (w.heap.size + 1))) : w4.heap[w.heap.size]? = some o := by
  have hb := alloc_block (new_block w o) X
  rw [h.block w.heap.size (lt_of_block hb) (by simp)]; exact hb
theorem iSubLine_any (v uv : Value) (s : Sb) (us : List Usr) (dom l : List UInt8) (m : Int) (w : World) (hu : SubAt 0 w v s) (huu : UsersAt 0 w uv us) (hd : dom.length ≤ bigN) (hl : l.length + 1 ≤ bigN) (hm : w.cell? ⟨0, 0, none⟩ = some (.int .i64 m)) :
    Calls Tryz.prog 12 #[v, uv, .string (bs dom), .string (bs l)] w (SubRes w (subLineP s us dom l)) := by
  obtain ⟨tv, rfl, hst, hul, htl⟩ := hu
  obtain ⟨ta, tcap, rfl⟩ := hst.form
  obtain ⟨stage, user, tos, text⟩ := s
  dsimp only at hst hul htl ⊢
  obtain ⟨ua, ucap, rfl⟩ := users_form huu
  have HST := hid hst
  have HUU := hid huu
  have HM := hid hm
  have HV := hid (fun w h => iSubValid_any 0 (.agg #[.int .i64 stage, .string (bs user), .slice ta tos.length tcap, .string (bs text)]) ⟨stage, user, tos, text⟩ w h)
  have HSA := hid (fun w' (k : Kept [] w w') => show SubAt 0 w' (.agg #[.int .i64 stage, .string (bs user), .slice ta tos.length tcap, .string (bs text)]) ⟨stage, user, tos, text⟩ from ⟨_, rfl, HST.out.kept0 k, hul, htl⟩)
  have HUS := hid (fun w h => iUsersValid_any 0 (.slice ua us.length ucap) us w h)
  have HDO := hid (fun w => iDomainValid_any (bs dom) w (by rw [bs_size]; exact hd))
  rw [bs_toList] at HDO
  clear hst huu hm
  cases hv : subOk ⟨stage, user, tos, text⟩ with
  | false =>
    have hr : subLineP ⟨stage, user, tos, text⟩ us dom l = (⟨0, [], [], []⟩, -1) := by unfold subLineP; rw [if_neg (by rw [hv]; simp)]
    rw [hr]
    rw [hv] at HV
    clear hr hv
    go_enter Tryz.func12, Tryz.ntmps12
    go_wp2_with fail
    refine (HV.out _ (HSA.out _ (((Kept.refl [] w).alloc _).alloc _))).mono ?_
    rintro e w1 ⟨rfl, hK⟩
    obtain ⟨hA, hZ, hk, hz⟩ := two_blocks hK
    have hy := lt_of_block hA
    have a0 := cell_of_block hA 0
    have a1 := cell_of_block hA 1
    have a2 := cell_of_block hA 2
    have a3 := cell_of_block hA 3
    have z0 := cell_of_block hZ 0
    have z1 := cell_of_block hZ 1
    have z2 := cell_of_block hZ 2
    have z3 := cell_of_block hZ 3
    have g0 := frozen_of_block hA 0
    have g1 := frozen_of_block hA 1
    have g2 := frozen_of_block hA 2
    have g3 := frozen_of_block hA 3
    have f0 := frozen_of_block hZ 0
    have f1 := frozen_of_block hZ 1
    have f2 := frozen_of_block hZ 2
    have f3 := frozen_of_block hZ 3
    simp at a0 a1 a2 a3 z0 z1 z2 z3
    have HK := hid hk
    have HA := hid hA
    have HZ := hid hZ
    clear hA hZ hK hk
    go_wp2
    refine bodyPost_ret (v := .tuple #[.agg #[.int .i64 0, .string ⟨#[]⟩, .slice none 0 0, .string ⟨#[]⟩], .int .i64 (-1)]) (by simp [results, Tryz.results12, go_sem, z0, z1, z2, z3]) rfl ⟨_, rfl, ⟨_, rfl, strs_none _ _ _, Nat.zero_le _, Nat.zero_le _⟩, ?_⟩
    (repeat' with_reducible first | exact HK.out | refine Kept.setCell ?_ _ _ (by simp) | refine Kept.drewN ?_ _ | refine Kept.drew ?_ | refine Kept.alloc ?_ _)
  | true =>
    have HVV := hid hv
    rw [hv] at HV
    cases huv : usersOk us with
    | false =>
      have hr : subLineP ⟨stage, user, tos, text⟩ us dom l = (⟨0, [], [], []⟩, -1) := by unfold subLineP; rw [if_neg (by rw [huv]; simp)]
      rw [hr]
      rw [huv] at HUS
      clear hr hv huv
      go_enter Tryz.func12, Tryz.ntmps12
      go_wp2_with fail
      refine (HV.out _ (HSA.out _ (((Kept.refl [] w).alloc _).alloc _))).mono ?_
      rintro e w1 ⟨rfl, hK⟩
      obtain ⟨hA, hZ, hk, hz⟩ := two_blocks hK
      have hy := lt_of_block hA
      have a0 := cell_of_block hA 0
      have a1 := cell_of_block hA 1
      have a2 := cell_of_block hA 2
      have a3 := cell_of_block hA 3
      have z0 := cell_of_block hZ 0
      have z1 := cell_of_block hZ 1
      have z2 := cell_of_block hZ 2
      have z3 := cell_of_block hZ 3
      have g0 := frozen_of_block hA 0
      have g1 := frozen_of_block hA 1
      have g2 := frozen_of_block hA 2
      have g3 := frozen_of_block hA 3
      have f0 := frozen_of_block hZ 0
      have f1 := frozen_of_block hZ 1
      have f2 := frozen_of_block hZ 2
      have f3 := frozen_of_block hZ 3
      simp at a0 a1 a2 a3 z0 z1 z2 z3
      have HK := hid hk
      have HA := hid hA
      have HZ := hid hZ
      clear hA hZ hK hk
      go_wp2_with fail
      refine (HUS.out _ (HUU.out.kept0 HK.out)).mono ?_
      rintro e w2 ⟨rfl, hK⟩
      have hA2 := hK.same HA.out (by simp)
      have hZ2 := hK.same HZ.out (by simp)
      clear HA HZ a0 a1 a2 a3 z0 z1 z2 z3 g0 g1 g2 g3 f0 f1 f2 f3 hz hy
      have a0 := cell_of_block hA2 0
      have a1 := cell_of_block hA2 1
      have a2 := cell_of_block hA2 2
      have a3 := cell_of_block hA2 3
      have g0 := frozen_of_block hA2 0
      have g1 := frozen_of_block hA2 1
      have g2 := frozen_of_block hA2 2
      have g3 := frozen_of_block hA2 3
      simp at a0 a1 a2 a3
      have z0 := cell_of_block hZ2 0
      have z1 := cell_of_block hZ2 1
      have z2 := cell_of_block hZ2 2
      have z3 := cell_of_block hZ2 3
      have f0 := frozen_of_block hZ2 0
      have f1 := frozen_of_block hZ2 1
      have f2 := frozen_of_block hZ2 2
      have f3 := frozen_of_block hZ2 3
      simp at z0 z1 z2 z3
      have hz := lt_of_block hZ2
      have hy := lt_of_block hA2
      have HK2 := hid (HK.out.trans hK)
      have HA := hid hA2
      have HZ := hid hZ2
      clear HK hA2 hZ2 hK
      have HK := HK2
      clear HK2
      go_wp2
      refine bodyPost_ret (v := .tuple #[.agg #[.int .i64 0, .string ⟨#[]⟩, .slice none 0 0, .string ⟨#[]⟩], .int .i64 (-1)]) (by simp [results, Tryz.results12, go_sem, z0, z1, z2, z3]) rfl ⟨_, rfl, ⟨_, rfl, strs_none _ _ _, Nat.zero_le _, Nat.zero_le _⟩, ?_⟩
      (repeat' with_reducible first | exact HK.out | refine Kept.setCell ?_ _ _ (by simp) | refine Kept.drewN ?_ _ | refine Kept.drew ?_ | refine Kept.alloc ?_ _)
    | true =>
      have HUV := hid huv
      rw [huv] at HUS
      cases hdo : isDomain dom with
      | false =>
        have hr : subLineP ⟨stage, user, tos, text⟩ us dom l = (⟨0, [], [], []⟩, -1) := by unfold subLineP; rw [if_neg (by rw [hdo]; simp)]
        rw [hr]
        rw [hdo] at HDO
        clear hr hv huv hdo
        go_enter Tryz.func12, Tryz.ntmps12
        go_wp2_with fail
        refine (HV.out _ (HSA.out _ (((Kept.refl [] w).alloc _).alloc _))).mono ?_
        rintro e w1 ⟨rfl, hK⟩
        obtain ⟨hA, hZ, hk, hz⟩ := two_blocks hK
        have hy := lt_of_block hA
        have a0 := cell_of_block hA 0
        have a1 := cell_of_block hA 1
        have a2 := cell_of_block hA 2
        have a3 := cell_of_block hA 3
        have z0 := cell_of_block hZ 0
        have z1 := cell_of_block hZ 1
        have z2 := cell_of_block hZ 2
        have z3 := cell_of_block hZ 3
        have g0 := frozen_of_block hA 0
        have g1 := frozen_of_block hA 1
        have g2 := frozen_of_block hA 2
        have g3 := frozen_of_block hA 3
        have f0 := frozen_of_block hZ 0
        have f1 := frozen_of_block hZ 1
        have f2 := frozen_of_block hZ 2
        have f3 := frozen_of_block hZ 3
        simp at a0 a1 a2 a3 z0 z1 z2 z3
        have HK := hid hk
        have HA := hid hA
        have HZ := hid hZ
        clear hA hZ hK hk
        go_wp2_with fail
        refine (HUS.out _ (HUU.out.kept0 HK.out)).mono ?_
        rintro e w2 ⟨rfl, hK⟩
        have hA2 := hK.same HA.out (by simp)
        have hZ2 := hK.same HZ.out (by simp)
        clear HA HZ a0 a1 a2 a3 z0 z1 z2 z3 g0 g1 g2 g3 f0 f1 f2 f3 hz hy
        have a0 := cell_of_block hA2 0
        have a1 := cell_of_block hA2 1
        have a2 := cell_of_block hA2 2
        have a3 := cell_of_block hA2 3
        have g0 := frozen_of_block hA2 0
        have g1 := frozen_of_block hA2 1
        have g2 := frozen_of_block hA2 2
        have g3 := frozen_of_block hA2 3
        simp at a0 a1 a2 a3
        have z0 := cell_of_block hZ2 0
        have z1 := cell_of_block hZ2 1
        have z2 := cell_of_block hZ2 2
        have z3 := cell_of_block hZ2 3
        have f0 := frozen_of_block hZ2 0
        have f1 := frozen_of_block hZ2 1
        have f2 := frozen_of_block hZ2 2
        have f3 := frozen_of_block hZ2 3
        simp at z0 z1 z2 z3
        have hz := lt_of_block hZ2
        have hy := lt_of_block hA2
        have HK2 := hid (HK.out.trans hK)
        have HA := hid hA2
        have HZ := hid hZ2
        clear HK hA2 hZ2 hK
        have HK := HK2
        clear HK2
        go_wp2_with fail
        refine (HDO.out _).mono ?_
        rintro e w3 ⟨rfl, hK⟩
        have hA2 := hK.same HA.out (by simp)
        have hZ2 := hK.same HZ.out (by simp)
        clear HA HZ a0 a1 a2 a3 z0 z1 z2 z3 g0 g1 g2 g3 f0 f1 f2 f3 hz hy
        have a0 := cell_of_block hA2 0
        have a1 := cell_of_block hA2 1
        have a2 := cell_of_block hA2 2
        have a3 := cell_of_block hA2 3
        have g0 := frozen_of_block hA2 0
        have g1 := frozen_of_block hA2 1
        have g2 := frozen_of_block hA2 2
        have g3 := frozen_of_block hA2 3
        simp at a0 a1 a2 a3
        have z0 := cell_of_block hZ2 0
        have z1 := cell_of_block hZ2 1
        have z2 := cell_of_block hZ2 2
        have z3 := cell_of_block hZ2 3
        have f0 := frozen_of_block hZ2 0
        have f1 := frozen_of_block hZ2 1
        have f2 := frozen_of_block hZ2 2
        have f3 := frozen_of_block hZ2 3
        simp at z0 z1 z2 z3
        have hz := lt_of_block hZ2
        have hy := lt_of_block hA2
        have HK2 := hid (HK.out.trans hK)
        have HA := hid hA2
        have HZ := hid hZ2
        clear HK hA2 hZ2 hK
        have HK := HK2
        clear HK2
        go_wp2
        refine bodyPost_ret (v := .tuple #[.agg #[.int .i64 0, .string ⟨#[]⟩, .slice none 0 0, .string ⟨#[]⟩], .int .i64 (-1)]) (by simp [results, Tryz.results12, go_sem, z0, z1, z2, z3]) rfl ⟨_, rfl, ⟨_, rfl, strs_none _ _ _, Nat.zero_le _, Nat.zero_le _⟩, ?_⟩
        (repeat' with_reducible first | exact HK.out | refine Kept.setCell ?_ _ _ (by simp) | refine Kept.drewN ?_ _ | refine Kept.drew ?_ | refine Kept.alloc ?_ _)
      | true =>
        have hr : subLineP ⟨stage, user, tos, text⟩ us dom l = lineP ⟨stage, user, tos, text⟩ us dom l := by unfold subLineP; rw [if_pos ⟨hv, huv, hdo⟩]
        rw [hr]
        rw [hdo] at HDO
        have hok := line_ok (us := us) (dom := dom) (l := l) hv
        generalize hx : lineP ⟨stage, user, tos, text⟩ us dom l = x at hok
        have HX := hid hx
        have HOK := hid hok
        clear hr hv huv hdo hx hok
        go_enter Tryz.func12, Tryz.ntmps12
        go_wp2_with fail
        refine (HV.out _ (HSA.out _ (((Kept.refl [] w).alloc _).alloc _))).mono ?_
        rintro e w1 ⟨rfl, hK⟩
        obtain ⟨hA, hZ, hk, hz⟩ := two_blocks hK
        have hy := lt_of_block hA
        have a0 := cell_of_block hA 0
        have a1 := cell_of_block hA 1
        have a2 := cell_of_block hA 2
        have a3 := cell_of_block hA 3
        have z0 := cell_of_block hZ 0
        have z1 := cell_of_block hZ 1
        have z2 := cell_of_block hZ 2
        have z3 := cell_of_block hZ 3
        have g0 := frozen_of_block hA 0
        have g1 := frozen_of_block hA 1
        have g2 := frozen_of_block hA 2
        have g3 := frozen_of_block hA 3
        have f0 := frozen_of_block hZ 0
        have f1 := frozen_of_block hZ 1
        have f2 := frozen_of_block hZ 2
        have f3 := frozen_of_block hZ 3
        simp at a0 a1 a2 a3 z0 z1 z2 z3
        have HK := hid hk
        have HA := hid hA
        have HZ := hid hZ
        clear hA hZ hK hk
        go_wp2_with fail
        refine (HUS.out _ (HUU.out.kept0 HK.out)).mono ?_
        rintro e w2 ⟨rfl, hK⟩
        have hA2 := hK.same HA.out (by simp)
        have hZ2 := hK.same HZ.out (by simp)
        clear HA HZ a0 a1 a2 a3 z0 z1 z2 z3 g0 g1 g2 g3 f0 f1 f2 f3 hz hy
        have a0 := cell_of_block hA2 0
        have a1 := cell_of_block hA2 1
        have a2 := cell_of_block hA2 2
        have a3 := cell_of_block hA2 3
        have g0 := frozen_of_block hA2 0
        have g1 := frozen_of_block hA2 1
        have g2 := frozen_of_block hA2 2
        have g3 := frozen_of_block hA2 3
        simp at a0 a1 a2 a3
        have z0 := cell_of_block hZ2 0
        have z1 := cell_of_block hZ2 1
        have z2 := cell_of_block hZ2 2
        have z3 := cell_of_block hZ2 3
        have f0 := frozen_of_block hZ2 0
        have f1 := frozen_of_block hZ2 1
        have f2 := frozen_of_block hZ2 2
        have f3 := frozen_of_block hZ2 3
        simp at z0 z1 z2 z3
        have hz := lt_of_block hZ2
        have hy := lt_of_block hA2
        have HK2 := hid (HK.out.trans hK)
        have HA := hid hA2
        have HZ := hid hZ2
        clear HK hA2 hZ2 hK
        have HK := HK2
        clear HK2
        go_wp2_with fail
        refine (HDO.out _).mono ?_
        rintro e w3 ⟨rfl, hK⟩
        have hA2 := hK.same HA.out (by simp)
        have hZ2 := hK.same HZ.out (by simp)
        clear HA HZ a0 a1 a2 a3 z0 z1 z2 z3 g0 g1 g2 g3 f0 f1 f2 f3 hz hy
        have a0 := cell_of_block hA2 0
        have a1 := cell_of_block hA2 1
        have a2 := cell_of_block hA2 2
        have a3 := cell_of_block hA2 3
        have g0 := frozen_of_block hA2 0
        have g1 := frozen_of_block hA2 1
        have g2 := frozen_of_block hA2 2
        have g3 := frozen_of_block hA2 3
        simp at a0 a1 a2 a3
        have z0 := cell_of_block hZ2 0
        have z1 := cell_of_block hZ2 1
        have z2 := cell_of_block hZ2 2
        have z3 := cell_of_block hZ2 3
        have f0 := frozen_of_block hZ2 0
        have f1 := frozen_of_block hZ2 1
        have f2 := frozen_of_block hZ2 2
        have f3 := frozen_of_block hZ2 3
        simp at z0 z1 z2 z3
        have hz := lt_of_block hZ2
        have hy := lt_of_block hA2
        have HK2 := hid (HK.out.trans hK)
        have HA := hid hA2
        have HZ := hid hZ2
        clear HK hA2 hZ2 hK
        have HK := HK2
        clear HK2
        go_wp2_with (at_builtin; refine append_strs rfl (.tmp 30) (.tmp 32) rfl (w3.heap.size + 1) (w3.heap.size + 1) rfl (own_none _ _ _ (by simp) (Nat.le_refl _)) _ tos rfl (HST.out.kept0 ((HK.out.alloc _).alloc _)) (by simp) ?_; intro a4 c4 w4 hown4 hg4; have hb4 := sub_post hg4; have d2 := cell_of_block hb4 2; have e2 := frozen_of_block hb4 2; have hl4 := lt_of_block hb4; simp at d2; have HB4 := hid hb4; have HO4 := hid hown4; have HG4 := hid hg4; clear hb4 hown4 hg4)
        go_wp2_with fail
        have hk4 : Kept [] w3 w4 := (((Kept.refl [] w3).alloc _).alloc _).grown HG4.out (fun k e hk => by injection e with e; omega)
        have hPA : PostAt w3 w3.heap.size (w4.setCell ⟨w3.heap.size, 2, none⟩ (.slice a4 tos.length c4)) ⟨stage, user, tos, text⟩ us dom :=
          ⟨hk4.setCell _ _ (by simp), Nat.le_refl _, hd, _, _, set_of_block HB4.out _, own_kept HO4.out ((Kept.refl [w3.heap.size] w4).setCell _ _ (by simp)) (by simp), HUU.out.kept0 HK.out⟩
        have hH := handle_any w3 _ _ _ us dom l m hPA HVV.out HUV.out hl ((HK.out.trans hPA.kept).cell_some HM.out (by simp))
        rw [HX.out] at hH
        refine hH.mono ?_
        rintro e w5 ⟨rfl, hP⟩
        have hKP := hP.kept
        obtain ⟨tv5, uv5, -, ho5, -, x0, x1, x2, x3, -, -, hf5, hl5⟩ := hP.use
        have hS5 := strs_own_lo ho5 (by have := (subOk_use HOK.out).2.2.2.2.2.2.1; unfold bigN; omega) (to_names HOK.out)
        obtain ⟨a5, c5, rfl⟩ := hS5.form
        have hZ5 := hKP.same HZ.out (by simp)
        have HS5 := hid hS5
        have HK5 := hid (HK.out.trans hKP)
        have HU5 := hid (subOk_use HOK.out).2.2.2.2.2.1
        have HT5 := hid (subOk_use HOK.out).2.2.2.2.2.2.2
        have hz3 : w.heap.size + 1 < w3.heap.size + 1 := by omega
        clear z0 z1 z2 z3 f0 f1 f2 f3 hz a0 a1 a2 a3 g0 g1 g2 g3 hy d2 e2 hl4
        have z0 := cell_of_block hZ5 0
        have z1 := cell_of_block hZ5 1
        have z2 := cell_of_block hZ5 2
        have z3 := cell_of_block hZ5 3
        have f0 := frozen_of_block hZ5 0
        have f1 := frozen_of_block hZ5 1
        have f2 := frozen_of_block hZ5 2
        have f3 := frozen_of_block hZ5 3
        simp at z0 z1 z2 z3
        have hz := lt_of_block hZ5
        clear hZ5 hKP hP ho5 hS5 hf5 hPA hk4 hH
        go_wp2
        refine bodyPost_ret (v := .tuple #[.agg #[.int .i64 x.1.stage, .string (bs x.1.user), .slice a5 x.1.to.length c5, .string (bs x.1.text)], .int .i64 x.2]) (by simp [results, Tryz.results12, go_sem, z0, z1, z2, z3]) rfl ⟨_, rfl, ⟨_, rfl, ?_, ?_, ?_⟩, ?_⟩
        · refine (HS5.out.kept (bs := [w.heap.size + 1]) ?_ ?_).lo
          · (repeat' with_reducible first | exact Kept.refl _ _ | refine Kept.setCell ?_ _ _ (by simp))
          · intro b hb; rw [List.mem_singleton.1 hb]; exact .inl hz3
        · have := HU5.out; unfold bigN; omega
        · have := HT5.out; unfold bigN; omega
        · (repeat' with_reducible first | exact HK5.out | refine Kept.setCell ?_ _ _ (by simp) | refine Kept.drewN ?_ _ | refine Kept.drew ?_ | refine Kept.alloc ?_ _)
end Go.Proofs.YtahiahboneljaaaGreatDoor
