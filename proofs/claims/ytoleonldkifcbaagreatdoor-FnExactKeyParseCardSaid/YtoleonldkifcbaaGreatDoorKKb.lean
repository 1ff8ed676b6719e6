/- The walks of keys: nodes, validity, texts (impl). -/
import Derived.Test.YtoleonldkifcbaaGreatDoorKKa
namespace Go.Proofs.YtoleonldkifcbaaGreatDoor
open Go.RowKit

theorem nodeOk_5 (b : Int) (c : List UInt8) (d : List (Int × Int)) (n : Nat) : nodeOk 5 b c d n = (decide (n = 1) && ((decide (b = 0) && decide (c.length = 0)) && decide (d.length = 0))) := by
  simp [nodeOk, fieldsOk, kindOk, Bool.and_comm, Bool.and_left_comm, Bool.and_assoc]
theorem nodeOk_6 (a b : Int) (ha : a = 6 ∨ a = 7) (c : List UInt8) (d : List (Int × Int)) (n : Nat) : nodeOk a b c d n = (decide (n = 2) && ((decide (b = 0) && decide (c.length = 0)) && decide (d.length = 0))) := by
  rcases ha with rfl | rfl <;> simp [nodeOk, fieldsOk, kindOk, Bool.and_comm, Bool.and_left_comm, Bool.and_assoc]
theorem nodeOk_8 (a b : Int) (ha : 7 < a) (c : List UInt8) (d : List (Int × Int)) (n : Nat) : nodeOk a b c d n = false := by
  have : kindOk a b c d n = false := by
    unfold kindOk
    repeat rw [if_neg (by omega)]
  unfold nodeOk; rw [this, Bool.and_false]
theorem bldK_le {r q : Nat} {k : Ky} (h : bldK r k = some q) : q ≤ r := by
  rw [bldK_eq] at h
  split at h
  · injection h; omega
  · cases h

theorem bld_fail {lo p : Nat} {k : Ky} {o : Option Nat} {w0 w w' : World} (hK : Kept [p] w w') (ho : o = none) : BldRes w0 lo p k o w (.returned (.tuple #[.nilIface, .bool false])) w' := by
  refine ⟨_, false, rfl, hK, ?_⟩
  rw [ho]

theorem len_two {α : Type} {l : List α} (h : l.length = 2) : ∃ a b, l = [a, b] := by
  match l, h with
  | [a, b], _ => exact ⟨a, b, rfl⟩
theorem NodeAt.form {lo : Nat} {w : World} {k : Ky} {v : Value} (h : NodeAt lo w k v) : ∃ T x, v = .iface T x := by
  cases k
  unfold NodeAt at h
  rcases h with ⟨_, h⟩ | ⟨_, h⟩ | ⟨_, h⟩ | ⟨_, sv, h, _⟩ | ⟨_, sv, h, _⟩ | ⟨_, v1, h, _⟩ | ⟨_, v1, v2, h, _⟩ <;> exact ⟨_, _, h⟩

set_option maxRecDepth 100000 in
set_option maxHeartbeats 4000000 in
theorem keyBranch_any (lo : Nat) (w0 : World) (a b : Int) (c : List UInt8) (d : List (Int × Int)) (ks : List Ky) (sv kv : Value) (p q : Nat) (w : World) (h : KeyIn lo w0 (.mk a b c d ks) sv kv) (hK0 : Kept [] w0 w) (hp : w0.heap.size ≤ p)
    (hq9 : q ≤ 9) (hb : w.heap[p]? = some (.cells #[.int .i64 (q : Nat)] 3 (0, 0))) (ha : 5 ≤ a) (hall : BldAll lo w0 ks) :
    Calls Tryz.prog 54 #[.agg #[.int .i64 a, .int .i64 b, .string (bs c), sv, kv], .pointer (some ⟨p, 0, none⟩)] w (BldRes w0 lo p (.mk a b c d ks) (if nodeOk a b c d ks.length = true then bldL q ks else none) w) := by
  have hpl := lt_of_block hb
  have HP := hid hb
  have HK0 := hid hK0
  have HALL := hid hall
  obtain ⟨hcl, hsp, a4, cap, b4, off, hkv, hl1, hl2, hba, hks⟩ := h.parts
  have hkv : kv = .slice a4 ks.length cap := hkv
  subst hkv
  simp only [Ky.keys, Ky.text, Ky.set] at hcl hsp hl1 hl2 hba hks
  have HKS := hid hks
  have HBA := hid hba
  obtain ⟨sa, scap, rfl⟩ := hsp.form
  clear hb h hK0 hsp hall hks hba hcl
  have HPL := hid (fun W => keyPlain_any a b c sa scap (.slice a4 ks.length cap) d.length W)
  have HNEG := hid (nodeOk_8 a b)
  have HN6 := hid (nodeOk_6 a b)
  obtain ⟨pb, hpb⟩ : ∃ pb, ((decide (b = 0) && decide (c.length = 0)) && decide (d.length = 0)) = pb := ⟨_, rfl⟩
  rw [hpb] at HPL
  have HPB := hid hpb
  clear hpb
  by_cases a5 : a = 5
  · subst a5
    have HNO := hid (nodeOk_5 b c d ks.length)
    rw [HPB.out] at HNO
    clear ha
    by_cases hn : ks.length = 1
    · cases pb with
      | true =>
        obtain ⟨k1, rfl⟩ := List.length_eq_one_iff.1 hn
        have HOK : Hid ((if nodeOk 5 b c d [k1].length = true then bldL q [k1] else none) = bldK q k1) := by
          show _ = _
          rw [HNO.out, if_pos (by rw [decide_eq_true hn]; rfl)]
          unfold bldL
          cases bldK q k1 <;> simp [bldL]
        clear hn HNO
        rw [HOK.out]
        obtain ⟨rfl, -, hbw⟩ := HBA.out (by simp)
        obtain ⟨sv1, kv1, c0, c1, c2, c3, c4, hk1⟩ := KeysIn.get b4 off [k1] HKS.out 0 (by simp)
        simp only [List.getElem_cons_zero, Nat.zero_mul, Nat.add_zero] at c0 c1 c2 c3 c4 hk1
        have c0 := HK0.out.cell_some c0 (by simp)
        have c1 := HK0.out.cell_some c1 (by simp)
        have c2 := HK0.out.cell_some c2 (by simp)
        have c3 := HK0.out.cell_some c3 (by simp)
        have c4 := HK0.out.cell_some c4 (by simp)
        have HC := hid (fun W (hW : Kept [] w0 W) (hb : W.heap[p]? = some (.cells #[.int .i64 (q : Nat)] 3 (0, 0))) => HALL.out k1 (by simp) sv1 kv1 p q W hk1 hW hp hq9 hb)
        simp only [List.length_cons, List.length_nil, Nat.zero_add] at hl2 HPL ⊢
        clear HALL hk1
        go_enter Tryz.func54, Tryz.ntmps54
        go_wp2_with (go_at_call 57; with_reducible refine (HPL.out _).mono ?_; rintro e w1 ⟨rfl, hK1⟩)
        have hB1 := hK1.same (new_block w _) (by simp)
        have HKW := hid (((Kept.refl [] w).alloc _).trans hK1)
        have HB1 := hid hB1
        have HP1 := hid (HKW.out.same HP.out (by simp))
        have hw1 := lt_of_block hB1
        clear hK1 hB1
        go_loopg [31] 2 (fun m i W => (m = 2 ∧ i = .int .i64 0 ∧ W = w1.alloc (.cells #[.nilIface, .nilIface] 106)) ∨
          (m = 1 ∧ i = .int .i64 1 ∧ ∃ (q1 : Nat) (v1 : Value), bldK q k1 = some q1 ∧ NodeAt lo w0 k1 v1 ∧ W.heap[p]? = some (.cells #[.int .i64 (q1 : Nat)] 3 (0, 0)) ∧ W.heap[w1.heap.size]? = some (.cells #[v1, .nilIface] 106 (0, 0)) ∧
            W.heap[w.heap.size]? = some (.cells #[.int .i64 5, .int .i64 b, .string (bs c), .slice sa d.length scap, .slice (some ⟨b4, off, none⟩) 1 cap] 26 (0, 0)) ∧ Kept [p] w W))
        case atStart => exact .inl ⟨rfl, rfl, rfl⟩
        case round =>
          rcases hrel with ⟨rfl, rfl, rfl⟩ | ⟨rfl, rfl, q1, v1, hbl, hnode, hp2, hN2, hB2, hKW2⟩
          · have z4 := cell_of_block (alloc_block HB1.out (Obj.cells #[.nilIface, .nilIface] 106)) 4
            simp at z4
            have HN1 := hid (new_block w1 (Obj.cells #[.nilIface, .nilIface] 106))
            have HKA := hid ((Kept.refl [] w1).alloc (Obj.cells #[.nilIface, .nilIface] 106))
            have c0 := HKA.out.cell_some (HKW.out.cell_some c0 (by simp)) (by simp)
            have c1 := HKA.out.cell_some (HKW.out.cell_some c1 (by simp)) (by simp)
            have c2 := HKA.out.cell_some (HKW.out.cell_some c2 (by simp)) (by simp)
            have c3 := HKA.out.cell_some (HKW.out.cell_some c3 (by simp)) (by simp)
            have c4 := HKA.out.cell_some (HKW.out.cell_some c4 (by simp)) (by simp)
            go_wp2_with fail
            refine (HC.out _ (HK0.out.trans (HKW.out.trans HKA.out)) (HKA.out.same HP1.out (by simp))).mono ?_
            rintro e w2 ⟨nv, ok, rfl, hK2, hres⟩
            have hN2 := hK2.same HN1.out (by simp; omega)
            have n0 := cell_of_block hN2 0
            have m0 := frozen_of_block hN2 0
            simp at n0
            have HN2 := hid hN2
            have HK2 := hid (HKW.out.nil.trans (HKA.out.nil.trans hK2))
            have HB2 := hid (hK2.same (alloc_block HB1.out _) (by simp; omega))
            clear hN2 hK2
            cases hbl : bldK q k1 with
            | none =>
              rw [hbl] at hres
              dsimp only at hres
              subst hres
              go_wp2
              go_ret2
              exact bld_fail HK2.out hbl
            | some q1 =>
              rw [hbl] at hres
              obtain ⟨rfl, hnode, hp2⟩ := hres
              obtain ⟨T, x, rfl⟩ := hnode.form
              have HBL := hid hbl
              have HND := hid hnode
              have HP2 := hid hp2
              clear hbl hnode hp2
              go_wp2
              go_roundg 1
              case measure => decide
              case rel =>
                refine .inr ⟨rfl, by go_num, q1, .iface T x, HBL.out, HND.out, ?_, ?_, ?_, ?_⟩
                · exact set_other HP2.out _ _ (by simp; omega)
                · have := set_of_block (i := 0) HN2.out (.iface T x); simpa using this
                · exact set_other HB2.out _ _ (by simp; omega)
                · exact HK2.out.setCell _ _ (by simp; omega)
          · have z0 := cell_of_block hB2 0
            have n0 := cell_of_block hN2 0
            have hzl := lt_of_block hB2
            simp at z0 n0
            obtain ⟨T, x, rfl⟩ := hnode.form
            have HR := hid (And.intro hbl (And.intro hnode (And.intro hp2 hKW2)))
            clear hbl hnode hp2 hKW2 hN2 hB2
            go_wp2
            go_ret2
            obtain ⟨hbl, hnode, hp2, hKW2⟩ := HR.out
            rw [hbl]
            refine ⟨_, true, rfl, hKW2, rfl, ?_, hp2⟩
            unfold NodeAt NodesAt NodesAt
            exact .inr (.inr (.inr (.inr (.inr (.inl ⟨rfl, _, rfl, hnode, trivial⟩)))))
      | false =>
        have HNK : Hid ((if nodeOk 5 b c d ks.length = true then bldL q ks else none) = none) := by
          show _ = _
          rw [HNO.out, if_neg (by simp)]
        have hn1 : ((ks.length : Int) != 1) = false := by simp [hn]
        rw [HNK.out]
        clear hn HNO
        go_enter Tryz.func54, Tryz.ntmps54
        go_wp2_with (go_at_call 57; with_reducible refine (HPL.out _).mono ?_; rintro e w1 ⟨rfl, hK1⟩)
        go_ret2
        exact bld_fail (((Kept.refl _ _).alloc _).trans hK1.nil) rfl
    · have HNK : Hid ((if nodeOk 5 b c d ks.length = true then bldL q ks else none) = none) := by
        show _ = _
        rw [HNO.out, if_neg (by rw [decide_eq_false hn]; simp)]
      have hn1 : ((ks.length : Int) != 1) = true := by simp; omega
      rw [HNK.out]
      clear hn HNO
      go_enter Tryz.func54, Tryz.ntmps54
      go_wp2
      go_ret2
      exact bld_fail ((Kept.refl _ _).alloc _) rfl
  · by_cases a6 : a = 6
    · subst a6
      have HNO := hid (HN6.out (.inl rfl) c d ks.length)
      rw [HPB.out] at HNO
      by_cases hn : ks.length = 2
      · cases pb with
        | true =>
          obtain ⟨k1, k2, rfl⟩ := len_two hn
          have HOK : Hid ((if nodeOk 6 b c d [k1, k2].length = true then bldL q [k1, k2] else none) = match bldK q k1 with | none => none | some r => bldK r k2) := by
            show _ = _
            rw [HNO.out, if_pos (by rw [decide_eq_true hn]; rfl)]
            unfold bldL
            cases bldK q k1 with
            | none => rfl
            | some r =>
              unfold bldL
              dsimp only
              cases bldK r k2 <;> simp [bldL]
          clear hn HNO
          obtain ⟨o, ho⟩ : ∃ o, (match bldK q k1 with | none => none | some r => bldK r k2) = o := ⟨_, rfl⟩
          rw [HOK.out, ho]
          have HO := hid ho
          clear ho
          obtain ⟨rfl, -, hbw⟩ := HBA.out (by simp)
          obtain ⟨sv1, kv1, c0, c1, c2, c3, c4, hk1⟩ := KeysIn.get b4 off [k1, k2] HKS.out 0 (by simp)
          obtain ⟨sv2, kv2, d0, d1, d2, d3, d4, hk2⟩ := KeysIn.get b4 off [k1, k2] HKS.out 1 (by simp)
          simp only [List.getElem_cons_zero, List.getElem_cons_succ, Nat.zero_mul, Nat.one_mul, Nat.add_zero] at c0 c1 c2 c3 c4 hk1 d0 d1 d2 d3 d4 hk2
          have HCC := hid (fun W (hW : Kept [] w0 W) => And.intro (hW.cell_some c0 (by simp)) (And.intro (hW.cell_some c1 (by simp)) (And.intro (hW.cell_some c2 (by simp)) (And.intro (hW.cell_some c3 (by simp)) (hW.cell_some c4 (by simp))))))
          have HDD := hid (fun W (hW : Kept [] w0 W) => And.intro (hW.cell_some d0 (by simp)) (And.intro (hW.cell_some d1 (by simp)) (And.intro (hW.cell_some d2 (by simp)) (And.intro (hW.cell_some d3 (by simp)) (hW.cell_some d4 (by simp))))))
          have HC := hid (fun W (hW : Kept [] w0 W) (hb : W.heap[p]? = some (.cells #[.int .i64 (q : Nat)] 3 (0, 0))) => HALL.out k1 (by simp) sv1 kv1 p q W hk1 hW hp hq9 hb)
          have HD := hid (fun (r : Nat) (hr : r ≤ 9) W (hW : Kept [] w0 W) (hb : W.heap[p]? = some (.cells #[.int .i64 (r : Nat)] 3 (0, 0))) => HALL.out k2 (by simp) sv2 kv2 p r W hk2 hW hp hr hb)
          simp only [List.length_cons, List.length_nil, Nat.zero_add, Nat.reduceAdd] at hl2 HPL ⊢
          clear HALL hk1 hk2 c0 c1 c2 c3 c4 d0 d1 d2 d3 d4
          go_enter Tryz.func54, Tryz.ntmps54
          go_wp2_with (go_at_call 57; with_reducible refine (HPL.out _).mono ?_; rintro e w1 ⟨rfl, hK1⟩)
          have hB1 := hK1.same (new_block w _) (by simp)
          have HKW := hid (((Kept.refl [] w).alloc _).trans hK1)
          have HB1 := hid hB1
          have HP1 := hid (HKW.out.same HP.out (by simp))
          have hw1 := lt_of_block hB1
          clear hK1 hB1
          go_loopg [31] 3 (fun m i W => (m = 3 ∧ i = .int .i64 0 ∧ W = w1.alloc (.cells #[.nilIface, .nilIface] 106)) ∨
            (m = 2 ∧ i = .int .i64 1 ∧ ∃ (q1 : Nat) (v1 : Value), bldK q k1 = some q1 ∧ NodeAt lo w0 k1 v1 ∧ W.heap[p]? = some (.cells #[.int .i64 (q1 : Nat)] 3 (0, 0)) ∧ W.heap[w1.heap.size]? = some (.cells #[v1, .nilIface] 106 (0, 0)) ∧
              W.heap[w.heap.size]? = some (.cells #[.int .i64 6, .int .i64 b, .string (bs c), .slice sa d.length scap, .slice (some ⟨b4, off, none⟩) 2 cap] 26 (0, 0)) ∧ Kept [p] w W) ∨
            (m = 1 ∧ i = .int .i64 2 ∧ ∃ (q1 q2 : Nat) (v1 v2 : Value), bldK q k1 = some q1 ∧ bldK q1 k2 = some q2 ∧ NodeAt lo w0 k1 v1 ∧ NodeAt lo w0 k2 v2 ∧ W.heap[p]? = some (.cells #[.int .i64 (q2 : Nat)] 3 (0, 0)) ∧ W.heap[w1.heap.size]? = some (.cells #[v1, v2] 106 (0, 0)) ∧
              W.heap[w.heap.size]? = some (.cells #[.int .i64 6, .int .i64 b, .string (bs c), .slice sa d.length scap, .slice (some ⟨b4, off, none⟩) 2 cap] 26 (0, 0)) ∧ Kept [p] w W))
          case atStart => exact .inl ⟨rfl, rfl, rfl⟩
          case round =>
            rcases hrel with ⟨rfl, rfl, rfl⟩ | ⟨rfl, rfl, q1, v1, hbl, hnode, hp2, hN2, hB2, hKW2⟩ | ⟨rfl, rfl, q1, q2, v1, v2, hbl, hbl2, hnode, hnode2, hp2, hN2, hB2, hKW2⟩
            · have z4 := cell_of_block (alloc_block HB1.out (Obj.cells #[.nilIface, .nilIface] 106)) 4
              simp at z4
              have HN1 := hid (new_block w1 (Obj.cells #[.nilIface, .nilIface] 106))
              have HKA := hid ((Kept.refl [] w1).alloc (Obj.cells #[.nilIface, .nilIface] 106))
              obtain ⟨c0, c1, c2, c3, c4⟩ := HCC.out _ (HK0.out.trans (HKW.out.trans HKA.out))
              go_wp2_with fail
              refine (HC.out _ (HK0.out.trans (HKW.out.trans HKA.out)) (HKA.out.same HP1.out (by simp))).mono ?_
              rintro e w2 ⟨nv, ok, rfl, hK2, hres⟩
              have hN2 := hK2.same HN1.out (by simp; omega)
              have n0 := cell_of_block hN2 0
              have m0 := frozen_of_block hN2 0
              simp at n0
              have HN2 := hid hN2
              have HK2 := hid (HKW.out.nil.trans (HKA.out.nil.trans hK2))
              have HB2 := hid (hK2.same (alloc_block HB1.out _) (by simp; omega))
              clear hN2 hK2 c0 c1 c2 c3 c4
              cases hbl : bldK q k1 with
              | none =>
                rw [hbl] at hres
                dsimp only at hres
                subst hres
                go_wp2
                go_ret2
                exact bld_fail HK2.out (by rw [← HO.out, hbl])
              | some q1 =>
                rw [hbl] at hres
                obtain ⟨rfl, hnode, hp2⟩ := hres
                obtain ⟨T, x, rfl⟩ := hnode.form
                have HBL := hid hbl
                have HND := hid hnode
                have HP2 := hid hp2
                clear hbl hnode hp2
                go_wp2
                go_roundg 2
                case measure => decide
                case rel =>
                  refine .inr (.inl ⟨rfl, by go_num, q1, .iface T x, HBL.out, HND.out, ?_, ?_, ?_, ?_⟩)
                  · exact set_other HP2.out _ _ (by simp; omega)
                  · have := set_of_block (i := 0) HN2.out (.iface T x); simpa using this
                  · exact set_other HB2.out _ _ (by simp; omega)
                  · exact HK2.out.setCell _ _ (by simp; omega)
            · have z4 := cell_of_block hB2 4
              have n1 := cell_of_block hN2 1
              have m1 := frozen_of_block hN2 1
              have hzl := lt_of_block hB2
              simp at z4 n1
              obtain ⟨T1, x1, rfl⟩ := hnode.form
              have hKW0 := HK0.out.newB hKW2 hp
              obtain ⟨c0, c1, c2, c3, c4⟩ := HDD.out _ hKW0
              have hq1 := bldK_le hbl
              have HCL := hid (HD.out q1 (by omega) wr hKW0 hp2)
              have HR := hid (And.intro hbl (And.intro hnode hKW2))
              have HN2 := hid hN2
              have HB2 := hid hB2
              clear hbl hnode hp2 hKW2 hN2 hB2 hKW0
              go_wp2_with fail
              refine HCL.out.mono ?_
              rintro e w2 ⟨nv, ok, rfl, hK2, hres⟩
              have hN3 := hK2.same HN2.out (by simp; omega)
              have n1 := cell_of_block hN3 1
              have m1 := frozen_of_block hN3 1
              simp at n1
              have HN3 := hid hN3
              have HK3 := hid (HR.out.2.2.trans hK2)
              have HB3 := hid (hK2.same HB2.out (by simp; omega))
              clear hN3 hK2 c0 c1 c2 c3 c4 HN2 HB2 z4
              cases hbl2 : bldK q1 k2 with
              | none =>
                rw [hbl2] at hres
                dsimp only at hres
                subst hres
                go_wp2
                go_ret2
                exact bld_fail HK3.out (by rw [← HO.out, HR.out.1]; exact hbl2)
              | some q2 =>
                rw [hbl2] at hres
                obtain ⟨rfl, hnode2, hp2⟩ := hres
                obtain ⟨T, x, rfl⟩ := hnode2.form
                have HBL2 := hid hbl2
                have HND2 := hid hnode2
                have HP2 := hid hp2
                clear hbl2 hnode2 hp2
                go_wp2
                go_roundg 1
                case measure => decide
                case rel =>
                  refine .inr (.inr ⟨rfl, by go_num, q1, q2, .iface T1 x1, .iface T x, HR.out.1, HBL2.out, HR.out.2.1, HND2.out, ?_, ?_, ?_, ?_⟩)
                  · exact set_other HP2.out _ _ (by simp; omega)
                  · have := set_of_block (i := 1) HN3.out (.iface T x); simpa using this
                  · exact set_other HB3.out _ _ (by simp; omega)
                  · exact HK3.out.setCell _ _ (by simp; omega)
            · have z0 := cell_of_block hB2 0
              have n0 := cell_of_block hN2 0
              have n1 := cell_of_block hN2 1
              have hzl := lt_of_block hB2
              simp at z0 n0 n1
              obtain ⟨T1, x1, rfl⟩ := hnode.form
              obtain ⟨T2, x2, rfl⟩ := hnode2.form
              have HR := hid (And.intro hbl (And.intro hbl2 (And.intro hnode (And.intro hnode2 (And.intro hp2 hKW2)))))
              clear hbl hbl2 hnode hnode2 hp2 hKW2 hN2 hB2
              go_wp2
              go_ret2
              obtain ⟨hbl, hbl2, hnode, hnode2, hp2, hKW2⟩ := HR.out
              have ho : o = some q2 := by rw [← HO.out, hbl]; exact hbl2
              subst ho
              refine ⟨_, true, rfl, hKW2, rfl, ?_, hp2⟩
              unfold NodeAt NodesAt NodesAt NodesAt
              exact .inr (.inr (.inr (.inr (.inr (.inr ⟨.inl rfl, _, _, rfl, hnode, hnode2, trivial⟩)))))
        | false =>
          have HNK : Hid ((if nodeOk 6 b c d ks.length = true then bldL q ks else none) = none) := by
            show _ = _
            rw [HNO.out, if_neg (by simp)]
          have hn1 : ((ks.length : Int) != 2) = false := by simp [hn]
          rw [HNK.out]
          clear hn HNO
          go_enter Tryz.func54, Tryz.ntmps54
          go_wp2_with (go_at_call 57; with_reducible refine (HPL.out _).mono ?_; rintro e w1 ⟨rfl, hK1⟩)
          go_ret2
          exact bld_fail (((Kept.refl _ _).alloc _).trans hK1.nil) rfl
      · have HNK : Hid ((if nodeOk 6 b c d ks.length = true then bldL q ks else none) = none) := by
          show _ = _
          rw [HNO.out, if_neg (by rw [decide_eq_false hn]; simp)]
        have hn1 : ((ks.length : Int) != 2) = true := by simp; omega
        rw [HNK.out]
        clear hn HNO
        go_enter Tryz.func54, Tryz.ntmps54
        go_wp2
        go_ret2
        exact bld_fail ((Kept.refl _ _).alloc _) rfl
    · by_cases a7 : a = 7
      · subst a7
        have HNO := hid (HN6.out (.inr rfl) c d ks.length)
        rw [HPB.out] at HNO
        by_cases hn : ks.length = 2
        · cases pb with
          | true =>
            obtain ⟨k1, k2, rfl⟩ := len_two hn
            have HOK : Hid ((if nodeOk 7 b c d [k1, k2].length = true then bldL q [k1, k2] else none) = match bldK q k1 with | none => none | some r => bldK r k2) := by
              show _ = _
              rw [HNO.out, if_pos (by rw [decide_eq_true hn]; rfl)]
              unfold bldL
              cases bldK q k1 with
              | none => rfl
              | some r =>
                unfold bldL
                dsimp only
                cases bldK r k2 <;> simp [bldL]
            clear hn HNO
            obtain ⟨o, ho⟩ : ∃ o, (match bldK q k1 with | none => none | some r => bldK r k2) = o := ⟨_, rfl⟩
            rw [HOK.out, ho]
            have HO := hid ho
            clear ho
            obtain ⟨rfl, -, hbw⟩ := HBA.out (by simp)
            obtain ⟨sv1, kv1, c0, c1, c2, c3, c4, hk1⟩ := KeysIn.get b4 off [k1, k2] HKS.out 0 (by simp)
            obtain ⟨sv2, kv2, d0, d1, d2, d3, d4, hk2⟩ := KeysIn.get b4 off [k1, k2] HKS.out 1 (by simp)
            simp only [List.getElem_cons_zero, List.getElem_cons_succ, Nat.zero_mul, Nat.one_mul, Nat.add_zero] at c0 c1 c2 c3 c4 hk1 d0 d1 d2 d3 d4 hk2
            have HCC := hid (fun W (hW : Kept [] w0 W) => And.intro (hW.cell_some c0 (by simp)) (And.intro (hW.cell_some c1 (by simp)) (And.intro (hW.cell_some c2 (by simp)) (And.intro (hW.cell_some c3 (by simp)) (hW.cell_some c4 (by simp))))))
            have HDD := hid (fun W (hW : Kept [] w0 W) => And.intro (hW.cell_some d0 (by simp)) (And.intro (hW.cell_some d1 (by simp)) (And.intro (hW.cell_some d2 (by simp)) (And.intro (hW.cell_some d3 (by simp)) (hW.cell_some d4 (by simp))))))
            have HC := hid (fun W (hW : Kept [] w0 W) (hb : W.heap[p]? = some (.cells #[.int .i64 (q : Nat)] 3 (0, 0))) => HALL.out k1 (by simp) sv1 kv1 p q W hk1 hW hp hq9 hb)
            have HD := hid (fun (r : Nat) (hr : r ≤ 9) W (hW : Kept [] w0 W) (hb : W.heap[p]? = some (.cells #[.int .i64 (r : Nat)] 3 (0, 0))) => HALL.out k2 (by simp) sv2 kv2 p r W hk2 hW hp hr hb)
            simp only [List.length_cons, List.length_nil, Nat.zero_add, Nat.reduceAdd] at hl2 HPL ⊢
            clear HALL hk1 hk2 c0 c1 c2 c3 c4 d0 d1 d2 d3 d4
            go_enter Tryz.func54, Tryz.ntmps54
            go_wp2_with (go_at_call 57; with_reducible refine (HPL.out _).mono ?_; rintro e w1 ⟨rfl, hK1⟩)
            have hB1 := hK1.same (new_block w _) (by simp)
            have HKW := hid (((Kept.refl [] w).alloc _).trans hK1)
            have HB1 := hid hB1
            have HP1 := hid (HKW.out.same HP.out (by simp))
            have hw1 := lt_of_block hB1
            clear hK1 hB1
            go_loopg [31] 3 (fun m i W => (m = 3 ∧ i = .int .i64 0 ∧ W = w1.alloc (.cells #[.nilIface, .nilIface] 106)) ∨
              (m = 2 ∧ i = .int .i64 1 ∧ ∃ (q1 : Nat) (v1 : Value), bldK q k1 = some q1 ∧ NodeAt lo w0 k1 v1 ∧ W.heap[p]? = some (.cells #[.int .i64 (q1 : Nat)] 3 (0, 0)) ∧ W.heap[w1.heap.size]? = some (.cells #[v1, .nilIface] 106 (0, 0)) ∧
                W.heap[w.heap.size]? = some (.cells #[.int .i64 7, .int .i64 b, .string (bs c), .slice sa d.length scap, .slice (some ⟨b4, off, none⟩) 2 cap] 26 (0, 0)) ∧ Kept [p] w W) ∨
              (m = 1 ∧ i = .int .i64 2 ∧ ∃ (q1 q2 : Nat) (v1 v2 : Value), bldK q k1 = some q1 ∧ bldK q1 k2 = some q2 ∧ NodeAt lo w0 k1 v1 ∧ NodeAt lo w0 k2 v2 ∧ W.heap[p]? = some (.cells #[.int .i64 (q2 : Nat)] 3 (0, 0)) ∧ W.heap[w1.heap.size]? = some (.cells #[v1, v2] 106 (0, 0)) ∧
                W.heap[w.heap.size]? = some (.cells #[.int .i64 7, .int .i64 b, .string (bs c), .slice sa d.length scap, .slice (some ⟨b4, off, none⟩) 2 cap] 26 (0, 0)) ∧ Kept [p] w W))
            case atStart => exact .inl ⟨rfl, rfl, rfl⟩
            case round =>
              rcases hrel with ⟨rfl, rfl, rfl⟩ | ⟨rfl, rfl, q1, v1, hbl, hnode, hp2, hN2, hB2, hKW2⟩ | ⟨rfl, rfl, q1, q2, v1, v2, hbl, hbl2, hnode, hnode2, hp2, hN2, hB2, hKW2⟩
              · have z4 := cell_of_block (alloc_block HB1.out (Obj.cells #[.nilIface, .nilIface] 106)) 4
                simp at z4
                have HN1 := hid (new_block w1 (Obj.cells #[.nilIface, .nilIface] 106))
                have HKA := hid ((Kept.refl [] w1).alloc (Obj.cells #[.nilIface, .nilIface] 106))
                obtain ⟨c0, c1, c2, c3, c4⟩ := HCC.out _ (HK0.out.trans (HKW.out.trans HKA.out))
                go_wp2_with fail
                refine (HC.out _ (HK0.out.trans (HKW.out.trans HKA.out)) (HKA.out.same HP1.out (by simp))).mono ?_
                rintro e w2 ⟨nv, ok, rfl, hK2, hres⟩
                have hN2 := hK2.same HN1.out (by simp; omega)
                have n0 := cell_of_block hN2 0
                have m0 := frozen_of_block hN2 0
                simp at n0
                have HN2 := hid hN2
                have HK2 := hid (HKW.out.nil.trans (HKA.out.nil.trans hK2))
                have HB2 := hid (hK2.same (alloc_block HB1.out _) (by simp; omega))
                clear hN2 hK2 c0 c1 c2 c3 c4
                cases hbl : bldK q k1 with
                | none =>
                  rw [hbl] at hres
                  dsimp only at hres
                  subst hres
                  go_wp2
                  go_ret2
                  exact bld_fail HK2.out (by rw [← HO.out, hbl])
                | some q1 =>
                  rw [hbl] at hres
                  obtain ⟨rfl, hnode, hp2⟩ := hres
                  obtain ⟨T, x, rfl⟩ := hnode.form
                  have HBL := hid hbl
                  have HND := hid hnode
                  have HP2 := hid hp2
                  clear hbl hnode hp2
                  go_wp2
                  go_roundg 2
                  case measure => decide
                  case rel =>
                    refine .inr (.inl ⟨rfl, by go_num, q1, .iface T x, HBL.out, HND.out, ?_, ?_, ?_, ?_⟩)
                    · exact set_other HP2.out _ _ (by simp; omega)
                    · have := set_of_block (i := 0) HN2.out (.iface T x); simpa using this
                    · exact set_other HB2.out _ _ (by simp; omega)
                    · exact HK2.out.setCell _ _ (by simp; omega)
              · have z4 := cell_of_block hB2 4
                have n1 := cell_of_block hN2 1
                have m1 := frozen_of_block hN2 1
                have hzl := lt_of_block hB2
                simp at z4 n1
                obtain ⟨T1, x1, rfl⟩ := hnode.form
                have hKW0 := HK0.out.newB hKW2 hp
                obtain ⟨c0, c1, c2, c3, c4⟩ := HDD.out _ hKW0
                have hq1 := bldK_le hbl
                have HCL := hid (HD.out q1 (by omega) wr hKW0 hp2)
                have HR := hid (And.intro hbl (And.intro hnode hKW2))
                have HN2 := hid hN2
                have HB2 := hid hB2
                clear hbl hnode hp2 hKW2 hN2 hB2 hKW0
                go_wp2_with fail
                refine HCL.out.mono ?_
                rintro e w2 ⟨nv, ok, rfl, hK2, hres⟩
                have hN3 := hK2.same HN2.out (by simp; omega)
                have n1 := cell_of_block hN3 1
                have m1 := frozen_of_block hN3 1
                simp at n1
                have HN3 := hid hN3
                have HK3 := hid (HR.out.2.2.trans hK2)
                have HB3 := hid (hK2.same HB2.out (by simp; omega))
                clear hN3 hK2 c0 c1 c2 c3 c4 HN2 HB2 z4
                cases hbl2 : bldK q1 k2 with
                | none =>
                  rw [hbl2] at hres
                  dsimp only at hres
                  subst hres
                  go_wp2
                  go_ret2
                  exact bld_fail HK3.out (by rw [← HO.out, HR.out.1]; exact hbl2)
                | some q2 =>
                  rw [hbl2] at hres
                  obtain ⟨rfl, hnode2, hp2⟩ := hres
                  obtain ⟨T, x, rfl⟩ := hnode2.form
                  have HBL2 := hid hbl2
                  have HND2 := hid hnode2
                  have HP2 := hid hp2
                  clear hbl2 hnode2 hp2
                  go_wp2
                  go_roundg 1
                  case measure => decide
                  case rel =>
                    refine .inr (.inr ⟨rfl, by go_num, q1, q2, .iface T1 x1, .iface T x, HR.out.1, HBL2.out, HR.out.2.1, HND2.out, ?_, ?_, ?_, ?_⟩)
                    · exact set_other HP2.out _ _ (by simp; omega)
                    · have := set_of_block (i := 1) HN3.out (.iface T x); simpa using this
                    · exact set_other HB3.out _ _ (by simp; omega)
                    · exact HK3.out.setCell _ _ (by simp; omega)
              · have z0 := cell_of_block hB2 0
                have n0 := cell_of_block hN2 0
                have n1 := cell_of_block hN2 1
                have hzl := lt_of_block hB2
                simp at z0 n0 n1
                obtain ⟨T1, x1, rfl⟩ := hnode.form
                obtain ⟨T2, x2, rfl⟩ := hnode2.form
                have HR := hid (And.intro hbl (And.intro hbl2 (And.intro hnode (And.intro hnode2 (And.intro hp2 hKW2)))))
                clear hbl hbl2 hnode hnode2 hp2 hKW2 hN2 hB2
                go_wp2
                go_ret2
                obtain ⟨hbl, hbl2, hnode, hnode2, hp2, hKW2⟩ := HR.out
                have ho : o = some q2 := by rw [← HO.out, hbl]; exact hbl2
                subst ho
                refine ⟨_, true, rfl, hKW2, rfl, ?_, hp2⟩
                unfold NodeAt NodesAt NodesAt NodesAt
                exact .inr (.inr (.inr (.inr (.inr (.inr ⟨.inr rfl, _, _, rfl, hnode, hnode2, trivial⟩)))))
          | false =>
            have HNK : Hid ((if nodeOk 7 b c d ks.length = true then bldL q ks else none) = none) := by
              show _ = _
              rw [HNO.out, if_neg (by simp)]
            have hn1 : ((ks.length : Int) != 2) = false := by simp [hn]
            rw [HNK.out]
            clear hn HNO
            go_enter Tryz.func54, Tryz.ntmps54
            go_wp2_with (go_at_call 57; with_reducible refine (HPL.out _).mono ?_; rintro e w1 ⟨rfl, hK1⟩)
            go_ret2
            exact bld_fail (((Kept.refl _ _).alloc _).trans hK1.nil) rfl
        · have HNK : Hid ((if nodeOk 7 b c d ks.length = true then bldL q ks else none) = none) := by
            show _ = _
            rw [HNO.out, if_neg (by rw [decide_eq_false hn]; simp)]
          have hn1 : ((ks.length : Int) != 2) = true := by simp; omega
          rw [HNK.out]
          clear hn HNO
          go_enter Tryz.func54, Tryz.ntmps54
          go_wp2
          go_ret2
          exact bld_fail ((Kept.refl _ _).alloc _) rfl
      · have HNO := hid (HNEG.out (by omega) c d ks.length)
        have HNK : Hid ((if nodeOk a b c d ks.length = true then bldL q ks else none) = none) := by
          show _ = _
          rw [HNO.out, if_neg (by simp)]
        have g1 : (a == 5) = false := by simpa using a5
        have g2 : (7 : Int) < a := by omega
        rw [HNK.out]
        clear HNO a5 a6 a7 ha
        go_enter Tryz.func54, Tryz.ntmps54
        go_wp2
        go_ret2
        exact bld_fail ((Kept.refl _ _).alloc _) rfl

set_option maxHeartbeats 1000000 in
theorem keyNode_any (lo : Nat) (w0 : World) (a b : Int) (c : List UInt8) (d : List (Int × Int)) (ks : List Ky) (sv kv : Value) (p r : Nat) (w : World) (h : KeyIn lo w0 (.mk a b c d ks) sv kv) (hK0 : Kept [] w0 w) (hp : w0.heap.size ≤ p)
    (hr9 : r ≤ 9) (hb : w.heap[p]? = some (.cells #[.int .i64 (r : Nat)] 3 (0, 0))) (ha : 5 ≤ a) (hall : BldAll lo w0 ks) :
    Calls Tryz.prog 37 #[.agg #[.int .i64 a, .int .i64 b, .string (bs c), sv, kv], .pointer (some ⟨p, 0, none⟩)] w (BldRes w0 lo p (.mk a b c d ks) (bldK r (.mk a b c d ks)) w) := by
  have c0 := cell_of_block hb 0
  have f0 := frozen_of_block hb 0
  simp at c0
  have hpl := lt_of_block hb
  have hpn : ¬ p = w.heap.size := by omega
  have HP := hid hb
  have HK0 := hid hK0
  obtain ⟨hcl, hsp, a4, cap, b4, off, hkv, hl1, hl2, -, -⟩ := h.parts
  have hkv : kv = .slice a4 ks.length cap := hkv
  subst hkv
  simp only [Ky.keys, Ky.text, Ky.set] at hcl hsp hl1 hl2
  obtain ⟨sa, scap, rfl⟩ := hsp.form
  have HKB := hid (fun q W (hq : q ≤ 9) (hW : Kept [] w0 W) (hb : W.heap[p]? = some (.cells #[.int .i64 (q : Nat)] 3 (0, 0))) => keyBranch_any lo w0 a b c d ks (.slice sa d.length scap) (.slice a4 ks.length cap) p q W h hW hp hq hb ha hall)
  clear hb h hK0 hsp hcl hall
  by_cases hr : r = 0
  · subst hr
    have c0 : w.cell? ⟨p, 0, none⟩ = some (.int .i64 0) := c0
    go_enter Tryz.func37, Tryz.ntmps37
    go_wp2
    go_ret2
    exact ⟨_, false, rfl, by repeat' with_reducible first | exact Kept.refl _ _ | refine Kept.alloc ?_ _ | refine Kept.setCell ?_ _ _ (by simp), by unfold bldK; rw [if_pos rfl]⟩
  · obtain ⟨q, rfl⟩ : ∃ q, r = q + 1 := ⟨r - 1, by omega⟩
    have hq1 : ((q + 1 : Nat) : Int) - 1 = q := by omega
    have hq0 : ¬ (q : Int) < 0 := by omega
    have hqw : wrap64 (q : Int) = q := by unfold wrap64; omega
    have HBD : Hid (bldK (q + 1) (.mk a b c d ks) = if nodeOk a b c d ks.length = true then bldL q ks else none) := by
      show _ = _
      unfold bldK; rw [if_neg (by omega), if_neg (by omega)]; rfl
    clear hr
    rw [HBD.out]
    obtain ⟨o, ho⟩ : ∃ o, (if nodeOk a b c d ks.length = true then bldL q ks else none) = o := ⟨_, rfl⟩
    rw [ho]
    go_enter Tryz.func37, Tryz.ntmps37
    go_upto_region 4 with fail
    refine gen_world (fun W => W.heap[p]? = some (.cells #[.int .i64 (q : Nat)] 3 (0, 0)) ∧ W.heap[w.heap.size]? = some (.cells #[.int .i64 a, .int .i64 b, .string (bs c), .slice sa d.length scap, .slice a4 ks.length cap] 26 (0, 0)) ∧ Kept [p] w W) ⟨?_, ?_, ?_⟩ ?_
    · have := alloc_block (set_of_block (i := 0) HP.out (.int .i64 (q : Int))) (Obj.cells #[.int .i64 a, .int .i64 b, .string (bs c), .slice sa d.length scap, .slice a4 ks.length cap] 26)
      simpa using this
    · have := new_block (w.setCell ⟨p, 0, none⟩ (.int .i64 (q : Int))) (Obj.cells #[.int .i64 a, .int .i64 b, .string (bs c), .slice sa d.length scap, .slice a4 ks.length cap] 26)
      simpa using this
    · exact ((Kept.refl _ _).setCell _ _ (by simp)).alloc _
    clear c0 f0 HP
    rintro W ⟨hRB, hB, hKP⟩
    have z0 := cell_of_block hB 0
    have z1 := cell_of_block hB 1
    have z2 := cell_of_block hB 2
    have z3 := cell_of_block hB 3
    have z4 := cell_of_block hB 4
    simp at z0 z1 z2 z3 z4
    have hzl := lt_of_block hB
    have HC := hid (HKB.out q W (by omega) (HK0.out.newB hKP hp) hRB)
    rw [ho] at HC
    have HKP := hid hKP
    clear hRB hB hKP HKB ho
    go_wp2_with fail
    refine HC.out.mono ?_
    rintro e w1 ⟨nv, ok, rfl, hK1, hres⟩
    have HR := hid hres
    clear hres
    go_wp2
    go_ret2
    exact ⟨nv, ok, rfl, HKP.out.trans hK1, HR.out⟩

/-- Building, of whatever key. -/
theorem keyBuild_any (lo : Nat) (w0 : World) (hF : FlagsAt w0) (k : Ky) : ∀ (sv kv : Value) (p r : Nat) (w : World), KeyIn lo w0 k sv kv → Kept [] w0 w → w0.heap.size ≤ p → r ≤ 9 → w.heap[p]? = some (.cells #[.int .i64 (r : Nat)] 3 (0, 0)) →
    Calls Tryz.prog 37 #[.agg #[.int .i64 k.kind, .int .i64 k.flag, .string (bs k.text), sv, kv], .pointer (some ⟨p, 0, none⟩)] w (BldRes w0 lo p k (bldK r k) w) := by
  match k with
  | .mk a b c d ks =>
    intro sv kv p r w hk hK0 hp hr hb
    by_cases ha : a < 5
    · exact keyLeaf_any lo w0 a b c d ks sv kv p r w hk hK0 hp hF hr hb ha
    · exact keyNode_any lo w0 a b c d ks sv kv p r w hk hK0 hp hr hb (by omega) (fun k hk => keyBuild_any lo w0 hF k)
end Go.Proofs.YtoleonldkifcbaaGreatDoor
namespace Go.Proofs.YtoleonldkifcbaaGreatDoor
open Go.RowKit

theorem keyTree_any (lo : Nat) (v : Value) (k : Ky) (w : World) (h : KeyAt lo w v k) (hF : FlagsAt w) :
    Calls Tryz.prog 19 #[v] w fun e w' => ∃ nv, e = .returned (.tuple #[nv, .bool (validK k)]) ∧ Kept [] w w' ∧ (validK k = true → NodeAt lo w k nv) := by
  obtain ⟨sv, kv, rfl, hk⟩ := h
  have HV := hid (bldK_valid k)
  obtain ⟨-, hsp, a4, cap, b4, off, hkv, -⟩ := hk.parts
  subst hkv
  obtain ⟨sa, scap, rfl⟩ := hsp.form
  have K2 := hid (((Kept.refl [] w).alloc (Obj.cells #[.int .i64 k.kind, .int .i64 k.flag, .string (bs k.text), .slice sa k.set.length scap, .slice a4 k.keys.length cap] 26)).alloc (Obj.cells #[.int .i64 9] 3))
  have HB := hid (keyBuild_any lo w hF k (.slice sa k.set.length scap) (.slice a4 k.keys.length cap) (w.heap.size + 1) 9 _ hk K2.out (Nat.le_succ _) (Nat.le_refl _) (by have := new_block2 w (Obj.cells #[.int .i64 k.kind, .int .i64 k.flag, .string (bs k.text), .slice sa k.set.length scap, .slice a4 k.keys.length cap] 26) (Obj.cells #[.int .i64 9] 3); simpa using this))
  clear hk hsp hF
  go_enter Tryz.func19, Tryz.ntmps19
  go_wp2_with fail
  refine HB.out.mono ?_
  rintro e w1 ⟨nv, ok, rfl, hK, hres⟩
  have HR := hid hres
  have HK := hid (K2.out.newB hK (Nat.le_succ _))
  clear hres hK
  go_wp2
  go_ret2
  have hres := HR.out
  have hv := HV.out
  cases hb : bldK 9 k with
  | none =>
    rw [hb] at hres hv
    dsimp only at hres
    subst hres
    have hv : false = validK k := hv
    exact ⟨nv, by rw [← hv]; rfl, HK.out, fun h => by rw [← hv] at h; cases h⟩
  | some q =>
    rw [hb] at hres hv
    have hv : true = validK k := hv
    obtain ⟨rfl, hn, -⟩ := hres
    exact ⟨nv, by rw [← hv]; rfl, HK.out, fun _ => hn⟩

theorem ta_all_has (x : Value) (W : World) : (Instr.typeAssert (.iface 90 x) 40 65 true).run Tryz.prog W = .ok (.tuple #[.agg #[.int .i64 0], .bool false]) W := by kernel_rfl
theorem ta_all_text (x : Value) (W : World) : (Instr.typeAssert (.iface 90 x) 40 68 true).run Tryz.prog W = .ok (.tuple #[.agg #[.string ⟨#[]⟩], .bool false]) W := by kernel_rfl
theorem ta_all_place (x : Value) (W : World) : (Instr.typeAssert (.iface 90 x) 40 70 true).run Tryz.prog W = .ok (.tuple #[.agg #[.slice none 0 0], .bool false]) W := by kernel_rfl
theorem ta_all_uid (x : Value) (W : World) : (Instr.typeAssert (.iface 90 x) 40 72 true).run Tryz.prog W = .ok (.tuple #[.agg #[.slice none 0 0], .bool false]) W := by kernel_rfl
theorem ta_all_not (x : Value) (W : World) : (Instr.typeAssert (.iface 90 x) 40 74 true).run Tryz.prog W = .ok (.tuple #[.agg #[.nilIface], .bool false]) W := by kernel_rfl
theorem ta_all_pair (x : Value) (W : World) : (Instr.typeAssert (.iface 90 x) 40 76 true).run Tryz.prog W = .ok (.tuple #[.agg #[.bool false, .nilIface, .nilIface], .bool false]) W := by kernel_rfl
theorem ta_has_has (x : Value) (W : World) : (Instr.typeAssert (.iface 65 x) 40 65 true).run Tryz.prog W = .ok (.tuple #[x, .bool true]) W := by kernel_rfl
theorem ta_text_has (x : Value) (W : World) : (Instr.typeAssert (.iface 68 x) 40 65 true).run Tryz.prog W = .ok (.tuple #[.agg #[.int .i64 0], .bool false]) W := by kernel_rfl
theorem ta_text_text (x : Value) (W : World) : (Instr.typeAssert (.iface 68 x) 40 68 true).run Tryz.prog W = .ok (.tuple #[x, .bool true]) W := by kernel_rfl
theorem ta_place_has (x : Value) (W : World) : (Instr.typeAssert (.iface 70 x) 40 65 true).run Tryz.prog W = .ok (.tuple #[.agg #[.int .i64 0], .bool false]) W := by kernel_rfl
theorem ta_place_text (x : Value) (W : World) : (Instr.typeAssert (.iface 70 x) 40 68 true).run Tryz.prog W = .ok (.tuple #[.agg #[.string ⟨#[]⟩], .bool false]) W := by kernel_rfl
theorem ta_place_place (x : Value) (W : World) : (Instr.typeAssert (.iface 70 x) 40 70 true).run Tryz.prog W = .ok (.tuple #[x, .bool true]) W := by kernel_rfl
theorem ta_uid_has (x : Value) (W : World) : (Instr.typeAssert (.iface 72 x) 40 65 true).run Tryz.prog W = .ok (.tuple #[.agg #[.int .i64 0], .bool false]) W := by kernel_rfl
theorem ta_uid_text (x : Value) (W : World) : (Instr.typeAssert (.iface 72 x) 40 68 true).run Tryz.prog W = .ok (.tuple #[.agg #[.string ⟨#[]⟩], .bool false]) W := by kernel_rfl
theorem ta_uid_place (x : Value) (W : World) : (Instr.typeAssert (.iface 72 x) 40 70 true).run Tryz.prog W = .ok (.tuple #[.agg #[.slice none 0 0], .bool false]) W := by kernel_rfl
theorem ta_uid_uid (x : Value) (W : World) : (Instr.typeAssert (.iface 72 x) 40 72 true).run Tryz.prog W = .ok (.tuple #[x, .bool true]) W := by kernel_rfl
theorem ta_not_has (x : Value) (W : World) : (Instr.typeAssert (.iface 74 x) 40 65 true).run Tryz.prog W = .ok (.tuple #[.agg #[.int .i64 0], .bool false]) W := by kernel_rfl
theorem ta_not_text (x : Value) (W : World) : (Instr.typeAssert (.iface 74 x) 40 68 true).run Tryz.prog W = .ok (.tuple #[.agg #[.string ⟨#[]⟩], .bool false]) W := by kernel_rfl
theorem ta_not_place (x : Value) (W : World) : (Instr.typeAssert (.iface 74 x) 40 70 true).run Tryz.prog W = .ok (.tuple #[.agg #[.slice none 0 0], .bool false]) W := by kernel_rfl
theorem ta_not_uid (x : Value) (W : World) : (Instr.typeAssert (.iface 74 x) 40 72 true).run Tryz.prog W = .ok (.tuple #[.agg #[.slice none 0 0], .bool false]) W := by kernel_rfl
theorem ta_not_not (x : Value) (W : World) : (Instr.typeAssert (.iface 74 x) 40 74 true).run Tryz.prog W = .ok (.tuple #[x, .bool true]) W := by kernel_rfl
theorem ta_pair_has (x : Value) (W : World) : (Instr.typeAssert (.iface 76 x) 40 65 true).run Tryz.prog W = .ok (.tuple #[.agg #[.int .i64 0], .bool false]) W := by kernel_rfl
theorem ta_pair_text (x : Value) (W : World) : (Instr.typeAssert (.iface 76 x) 40 68 true).run Tryz.prog W = .ok (.tuple #[.agg #[.string ⟨#[]⟩], .bool false]) W := by kernel_rfl
theorem ta_pair_place (x : Value) (W : World) : (Instr.typeAssert (.iface 76 x) 40 70 true).run Tryz.prog W = .ok (.tuple #[.agg #[.slice none 0 0], .bool false]) W := by kernel_rfl
theorem ta_pair_uid (x : Value) (W : World) : (Instr.typeAssert (.iface 76 x) 40 72 true).run Tryz.prog W = .ok (.tuple #[.agg #[.slice none 0 0], .bool false]) W := by kernel_rfl
theorem ta_pair_not (x : Value) (W : World) : (Instr.typeAssert (.iface 76 x) 40 74 true).run Tryz.prog W = .ok (.tuple #[.agg #[.nilIface], .bool false]) W := by kernel_rfl
theorem ta_pair_pair (x : Value) (W : World) : (Instr.typeAssert (.iface 76 x) 40 76 true).run Tryz.prog W = .ok (.tuple #[x, .bool true]) W := by kernel_rfl

theorem fmtK_len {k : Ky} (h : allK k = true) : (fmtK k).length ≤ 50 * nodesK k := by have := (wordsK_ok k h).2.2.2.2; omega

set_option maxRecDepth 100000 in
set_option maxHeartbeats 4000000 in
theorem keyWords_any (lo : Nat) (w0 : World) (hF : FlagsAt w0) (k : Ky) : ∀ (v : Value) (w : World), NodeAt lo w0 k v → allK k = true → nodesK k ≤ 1000 → Kept [] w0 w →
    Calls Tryz.prog 20 #[v] w fun e w' => e = .returned (.string (bs (fmtK k))) ∧ Kept [] w w' := by
  match k with
  | .mk a b c d ks =>
    intro v w hn hok hsz hK0
    have hok' := hok
    unfold allK at hok'
    simp only [Bool.and_eq_true] at hok'
    obtain ⟨hall, hno⟩ := hok'
    have HFM : Hid (fmtK (.mk a b c d ks) = headT a b c d ++ fmtL ks) := by show _ = _; unfold fmtK; rfl
    unfold NodeAt at hn
    rcases hn with ⟨rfl, rfl⟩ | ⟨rfl, rfl⟩ | ⟨rfl, rfl⟩ | ⟨rfl, sv, rfl, hs⟩ | ⟨rfl, sv, rfl, hs⟩ | ⟨rfl, v1, rfl, hs⟩ | ⟨ha, v1, v2, rfl, hs⟩
    · rcases nodeOk_kinds hno with ⟨-, -, -, -, hl⟩ | ⟨h, _⟩ | ⟨h, _⟩ | ⟨h, _⟩ | ⟨h, _⟩ | ⟨h, _⟩ <;> (try omega)
      obtain rfl := List.eq_nil_of_length_eq_zero hl
      have HS : Hid (fmtK (.mk 0 b c d []) = tAll) := by show _ = _; rw [HFM.out]; simp [headT, fmtL]
      clear hall hno hok hsz hl
      have t0 := ta_all_has
      have t1 := ta_all_text
      have t2 := ta_all_place
      have t3 := ta_all_uid
      have t4 := ta_all_not
      have t5 := ta_all_pair
      go_enter Tryz.func20, Tryz.ntmps20
      go_wp2
      go_ret
      exact ⟨ret_str (by rw [HS.out]; rfl), Kept.refl _ _⟩
    · rcases nodeOk_kinds hno with ⟨h, _⟩ | ⟨-, hfl, -, -, hl⟩ | ⟨h, _⟩ | ⟨h, _⟩ | ⟨h, _⟩ | ⟨h, _⟩ <;> (try omega)
      obtain rfl := List.eq_nil_of_length_eq_zero hl
      have HS : Hid (fmtK (.mk 1 b c d []) = flT b) := by show _ = _; rw [HFM.out]; simp [headT, fmtL]
      have HC := hid (fun W (hW : Kept [] w W) => keyFlagWord_any b W (hF.kept0 (hK0.trans hW)))
      clear hall hno hok hsz hl hF hK0
      have t0 := ta_has_has
      go_enter Tryz.func20, Tryz.ntmps20
      go_wp2_with fail
      refine (HC.out _ ((Kept.refl _ _).alloc _)).mono ?_
      rintro e w1 ⟨rfl, hK⟩
      go_wp2
      go_ret
      exact ⟨ret_str (by rw [HS.out]), ((Kept.refl _ _).alloc _).trans hK⟩
    · rcases nodeOk_kinds hno with ⟨h, _⟩ | ⟨h, _⟩ | ⟨-, -, hnm, -, hl⟩ | ⟨h, _⟩ | ⟨h, _⟩ | ⟨h, _⟩ <;> (try omega)
      obtain rfl := List.eq_nil_of_length_eq_zero hl
      have HS : Hid (fmtK (.mk 2 b c d []) = tText ++ 32 :: c) := by show _ = _; rw [HFM.out]; simp [headT, fmtL]
      have hl8 := (isName_len hnm).2
      have s1 : (5 : Int) + c.length ≤ 9223372036854775807 := by omega
      clear hall hno hok hsz hl hF hK0 hnm
      have t0 := ta_text_has
      have t1 := ta_text_text
      go_enter Tryz.func20, Tryz.ntmps20
      go_wp2
      go_ret
      exact ⟨ret_str (by rw [HS.out, ← toList_inj]; simp [tText]), (Kept.refl _ _).alloc _⟩
    · rcases nodeOk_kinds hno with ⟨h, _⟩ | ⟨h, _⟩ | ⟨h, _⟩ | ⟨-, -, -, -, hl⟩ | ⟨h, _⟩ | ⟨h, _⟩ <;> (try omega)
      obtain rfl := List.eq_nil_of_length_eq_zero hl
      have HS : Hid (fmtK (.mk 3 b c d []) = tAt ++ 32 :: setT d) := by show _ = _; rw [HFM.out]; simp [headT, fmtL]
      obtain ⟨sa, scap, rfl⟩ := hs.form
      have HC := hid (fun W (hW : Kept [] w W) => iSetText_any lo (.slice sa d.length scap) d W (hs.kept0 (hK0.trans hW)))
      have hl8 := (setT_facts d).2
      have s1 : (3 : Int) + (setT d).length ≤ 9223372036854775807 := by omega
      clear hall hno hok hsz hl hF hK0 hs
      have t0 := ta_place_has
      have t1 := ta_place_text
      have t2 := ta_place_place
      go_enter Tryz.func20, Tryz.ntmps20
      go_wp2_with fail
      refine (HC.out _ ((Kept.refl _ _).alloc _)).mono ?_
      rintro e w1 ⟨rfl, hK⟩
      go_wp2
      go_ret
      exact ⟨ret_str (by rw [HS.out, ← toList_inj]; simp [tAt]), ((Kept.refl _ _).alloc _).trans hK⟩
    · rcases nodeOk_kinds hno with ⟨h, _⟩ | ⟨h, _⟩ | ⟨h, _⟩ | ⟨-, -, -, -, hl⟩ | ⟨h, _⟩ | ⟨h, _⟩ <;> (try omega)
      obtain rfl := List.eq_nil_of_length_eq_zero hl
      have HS : Hid (fmtK (.mk 4 b c d []) = tUid ++ 32 :: setT d) := by show _ = _; rw [HFM.out]; simp [headT, fmtL]
      obtain ⟨sa, scap, rfl⟩ := hs.form
      have HC := hid (fun W (hW : Kept [] w W) => iSetText_any lo (.slice sa d.length scap) d W (hs.kept0 (hK0.trans hW)))
      have hl8 := (setT_facts d).2
      have s1 : (4 : Int) + (setT d).length ≤ 9223372036854775807 := by omega
      clear hall hno hok hsz hl hF hK0 hs
      have t0 := ta_uid_has
      have t1 := ta_uid_text
      have t2 := ta_uid_place
      have t3 := ta_uid_uid
      go_enter Tryz.func20, Tryz.ntmps20
      go_wp2_with fail
      refine (HC.out _ ((Kept.refl _ _).alloc _)).mono ?_
      rintro e w1 ⟨rfl, hK⟩
      go_wp2
      go_ret
      exact ⟨ret_str (by rw [HS.out, ← toList_inj]; simp [tUid]), ((Kept.refl _ _).alloc _).trans hK⟩
    · rcases nodeOk_kinds hno with ⟨h, _⟩ | ⟨h, _⟩ | ⟨h, _⟩ | ⟨h, _⟩ | ⟨-, -, -, -, hl⟩ | ⟨h, _⟩ <;> (try omega)
      obtain ⟨k1, rfl⟩ := List.length_eq_one_iff.1 hl
      have HS : Hid (fmtK (.mk 5 b c d [k1]) = tNot ++ 32 :: fmtK k1) := by show _ = _; rw [HFM.out]; simp [headT, fmtL]
      simp only [allL, Bool.and_true] at hall
      simp only [nodesK, nodesL] at hsz
      unfold NodesAt NodesAt at hs
      have HC := hid (fun W (hW : Kept [] w W) => keyWords_any lo w0 hF k1 v1 W hs.1 hall (by omega) (hK0.trans hW))
      have hl8 := fmtK_len hall
      have s1 : (4 : Int) + (fmtK k1).length ≤ 9223372036854775807 := by omega
      obtain ⟨T, x, rfl⟩ := hs.1.form
      clear hall hno hok hl hF hK0 hs hsz hl8
      have t0 := ta_not_has
      have t1 := ta_not_text
      have t2 := ta_not_place
      have t3 := ta_not_uid
      have t4 := ta_not_not
      go_enter Tryz.func20, Tryz.ntmps20
      go_wp2_with fail
      refine (HC.out _ ((Kept.refl _ _).alloc _)).mono ?_
      rintro e w1 ⟨rfl, hK⟩
      go_wp2
      go_ret
      exact ⟨ret_str (by rw [HS.out, ← toList_inj]; simp [tNot]), ((Kept.refl _ _).alloc _).trans hK⟩
    · have hl : ks.length = 2 := by rcases nodeOk_kinds hno with ⟨h, _⟩ | ⟨h, _⟩ | ⟨h, _⟩ | ⟨h, _⟩ | ⟨h, _⟩ | ⟨-, -, -, -, hl⟩ <;> omega
      obtain ⟨k1, k2, rfl⟩ := len_two hl
      have HS : Hid (fmtK (.mk a b c d [k1, k2]) = (if a = 6 then tAnd else tOr) ++ 32 :: (fmtK k1 ++ 32 :: fmtK k2)) := by
        show _ = _; rw [HFM.out]; rcases ha with rfl | rfl <;> simp [headT, fmtL]
      simp only [allL, Bool.and_true, Bool.and_eq_true] at hall
      simp only [nodesK, nodesL] at hsz
      unfold NodesAt NodesAt NodesAt at hs
      have HC1 := hid (fun W (hW : Kept [] w W) => keyWords_any lo w0 hF k1 v1 W hs.1 hall.1 (by omega) (hK0.trans hW))
      have HC2 := hid (fun W (hW : Kept [] w W) => keyWords_any lo w0 hF k2 v2 W hs.2.1 hall.2 (by omega) (hK0.trans hW))
      have hl1 := fmtK_len hall.1
      have hl2 := fmtK_len hall.2
      obtain ⟨T1, x1, rfl⟩ := hs.1.form
      obtain ⟨T2, x2, rfl⟩ := hs.2.1.form
      generalize fmtK k1 = f1 at HS HC1 hl1
      generalize fmtK k2 = f2 at HS HC2 hl2
      clear hall hno hok hl hF hK0 hs
      rcases ha with rfl | rfl
      · have s1 : ¬ 9223372036854775807 < 4 + f1.length := by omega
        have s2 : ¬ 9223372036854775807 < 4 + f1.length + 1 := by omega
        have s3 : ¬ 9223372036854775807 < 4 + f1.length + 1 + f2.length := by omega
        clear hsz hl1 hl2
        have t0 := ta_pair_has
        have t1 := ta_pair_text
        have t2 := ta_pair_place
        have t3 := ta_pair_uid
        have t4 := ta_pair_not
        have t5 := ta_pair_pair
        go_enter Tryz.func20, Tryz.ntmps20
        go_wp2
        have HNB := hid (new_block w (Obj.cells #[.bool true, .iface T1 x1, .iface T2 x2] 76))
        have CK := hid (fun W (h : Kept [] (w.alloc (Obj.cells #[.bool true, .iface T1 x1, .iface T2 x2] 76)) W) => (show W.cell? ⟨w.heap.size, 1, none⟩ = some (.iface T1 x1) ∧ W.cell? ⟨w.heap.size, 2, none⟩ = some (.iface T2 x2) from by
          have hb := h.same HNB.out (by simp)
          exact ⟨by rw [cell_of_block hb]; rfl, by rw [cell_of_block hb]; rfl⟩))
        go_region_held3 (fun w' => w'.cell? ⟨w.heap.size, 1, none⟩ = some (.iface T1 x1) ∧ w'.cell? ⟨w.heap.size, 2, none⟩ = some (.iface T2 x2))
          (first
            | exact CK.out _ (by repeat' with_reducible first | exact hKK2 | exact hKK | exact Kept.refl _ _ | refine Kept.drew ?_ | refine Kept.alloc ?_ _)
            | go_keep)
          (first
            | (go_at_call 20
               with_reducible refine (HC1.out _ ?_).mono ?_
               · repeat' with_reducible first | exact Kept.refl _ _ | refine Kept.drew ?_ | refine Kept.alloc ?_ _
               rintro e w3 ⟨rfl, hK3⟩
               have hKK : Kept [] (w.alloc (Obj.cells #[.bool true, .iface T1 x1, .iface T2 x2] 76)) w3 := Kept.trans (by repeat' with_reducible first | exact Kept.refl _ _ | refine Kept.drew ?_) hK3)
            | (go_at_call 20
               with_reducible refine (HC2.out _ ?_).mono ?_
               · refine ((Kept.refl [] w).alloc _).trans hKK
               rintro e w4 ⟨rfl, hK4⟩
               have hKK2 : Kept [] (w.alloc (Obj.cells #[.bool true, .iface T1 x1, .iface T2 x2] 76)) w4 := hKK.trans hK4))
        all_goals
          go_wp2
          go_ret
          refine ⟨ret_str (by rw [HS.out, ← toList_inj]; simp [tAnd]), ?_⟩
          refine Kept.trans ((Kept.refl [] w).alloc (Obj.cells #[.bool true, .iface T1 x1, .iface T2 x2] 76)) ?_
          repeat' with_reducible first | exact hKK2 | refine Kept.drew ?_ | refine Kept.drewN ?_ _
      · have s1 : ¬ 9223372036854775807 < 3 + f1.length := by omega
        have s2 : ¬ 9223372036854775807 < 3 + f1.length + 1 := by omega
        have s3 : ¬ 9223372036854775807 < 3 + f1.length + 1 + f2.length := by omega
        clear hsz hl1 hl2
        have t0 := ta_pair_has
        have t1 := ta_pair_text
        have t2 := ta_pair_place
        have t3 := ta_pair_uid
        have t4 := ta_pair_not
        have t5 := ta_pair_pair
        go_enter Tryz.func20, Tryz.ntmps20
        go_wp2
        have HNB := hid (new_block w (Obj.cells #[.bool false, .iface T1 x1, .iface T2 x2] 76))
        have CK := hid (fun W (h : Kept [] (w.alloc (Obj.cells #[.bool false, .iface T1 x1, .iface T2 x2] 76)) W) => (show W.cell? ⟨w.heap.size, 1, none⟩ = some (.iface T1 x1) ∧ W.cell? ⟨w.heap.size, 2, none⟩ = some (.iface T2 x2) from by
          have hb := h.same HNB.out (by simp)
          exact ⟨by rw [cell_of_block hb]; rfl, by rw [cell_of_block hb]; rfl⟩))
        go_region_held3 (fun w' => w'.cell? ⟨w.heap.size, 1, none⟩ = some (.iface T1 x1) ∧ w'.cell? ⟨w.heap.size, 2, none⟩ = some (.iface T2 x2))
          (first
            | exact CK.out _ (by repeat' with_reducible first | exact hKK2 | exact hKK | exact Kept.refl _ _ | refine Kept.drew ?_ | refine Kept.alloc ?_ _)
            | go_keep)
          (first
            | (go_at_call 20
               with_reducible refine (HC1.out _ ?_).mono ?_
               · repeat' with_reducible first | exact Kept.refl _ _ | refine Kept.drew ?_ | refine Kept.alloc ?_ _
               rintro e w3 ⟨rfl, hK3⟩
               have hKK : Kept [] (w.alloc (Obj.cells #[.bool false, .iface T1 x1, .iface T2 x2] 76)) w3 := Kept.trans (by repeat' with_reducible first | exact Kept.refl _ _ | refine Kept.drew ?_) hK3)
            | (go_at_call 20
               with_reducible refine (HC2.out _ ?_).mono ?_
               · refine ((Kept.refl [] w).alloc _).trans hKK
               rintro e w4 ⟨rfl, hK4⟩
               have hKK2 : Kept [] (w.alloc (Obj.cells #[.bool false, .iface T1 x1, .iface T2 x2] 76)) w4 := hKK.trans hK4))
        all_goals
          go_wp2
          go_ret
          refine ⟨ret_str (by rw [HS.out, ← toList_inj]; simp [tOr]), ?_⟩
          refine Kept.trans ((Kept.refl [] w).alloc (Obj.cells #[.bool false, .iface T1 x1, .iface T2 x2] 76)) ?_
          repeat' with_reducible first | exact hKK2 | refine Kept.drew ?_ | refine Kept.drewN ?_ _

theorem fmtV_no {k : Ky} (h : validK k = false) : fmtV k = [] := by unfold fmtV; rw [h]; rfl
theorem fmtV_yes {k : Ky} (h : validK k = true) : fmtV k = fmtK k := by unfold fmtV; rw [if_pos h]

theorem iKeyFormat_any (lo : Nat) (v : Value) (k : Ky) (w : World) (h : KeyAt lo w v k) (hF : FlagsAt w) :
    Calls Tryz.prog 8 #[v] w fun e w' => e = .returned (.string (bs (fmtV k))) ∧ Kept [] w w' := by
  have HT := hid (fun W (hW : Kept [] w W) => keyTree_any lo v k W (h.kept0 hW) (hF.kept0 hW))
  have HW := hid (fun nv W0 (hW0 : Kept [] w W0) (hn : NodeAt lo W0 k nv) (hv : validK k = true) W (hW : Kept [] W0 W) => keyWords_any lo W0 (hF.kept0 hW0) k nv W hn (validK_all hv).1 (by have := (validK_all hv).2; omega) hW)
  obtain ⟨sv, kv, rfl, hk⟩ := h
  obtain ⟨-, hsp, a4, cap, b4, off, hkv, -⟩ := hk.parts
  subst hkv
  obtain ⟨sa, scap, rfl⟩ := hsp.form
  clear hk hsp hF
  have HK0 := hid ((Kept.refl [] w).alloc (Obj.cells #[.int .i64 k.kind, .int .i64 k.flag, .string (bs k.text), .slice sa k.set.length scap, .slice a4 k.keys.length cap] 26))
  cases hv : validK k with
  | false =>
    have HV := hid hv
    rw [hv] at HT
    clear hv HW
    go_enter Tryz.func8, Tryz.ntmps8
    go_wp2_with fail
    refine (HT.out _ HK0.out).mono ?_
    rintro e w1 ⟨nv, rfl, hK, -⟩
    go_wp2
    go_ret
    exact ⟨ret_str (by rw [fmtV_no HV.out]; rfl), HK0.out.trans hK⟩
  | true =>
    have HV := hid hv
    rw [hv] at HT
    clear hv
    go_enter Tryz.func8, Tryz.ntmps8
    go_wp2_with fail
    refine (HT.out _ HK0.out).mono ?_
    rintro e w1 ⟨nv, rfl, hK, hn⟩
    have hn := hn (by first | rfl | trivial)
    obtain ⟨T, x, rfl⟩ := hn.form
    have HC := hid (HW.out (.iface T x) _ HK0.out hn HV.out w1 hK)
    have HK := hid (HK0.out.trans hK)
    clear hn hK HW HT
    go_wp2_with fail
    refine HC.out.mono ?_
    rintro e w2 ⟨rfl, hK2⟩
    go_wp2
    go_ret
    exact ⟨ret_str (by rw [fmtV_yes HV.out]), HK.out.trans hK2⟩
end Go.Proofs.YtoleonldkifcbaaGreatDoor
