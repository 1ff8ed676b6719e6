/- The walks of the Builder and of base64 being written (impl). -/
import Derived.Test.YtahiahboneljaaaGreatDoorKWc
import Derived.Test.YtahiahboneljaaaGreatDoorKP
import Derived.Lib.Builder
import Derived.Lib.AppendStr
import Derived.Lib.OthersKept
import Derived.Lib.OwnKind
import Derived.RangeFuncOwn
import Derived.RangeFuncCalls
import Derived.Laws.BitsLemmas
import Derived.RangeFuncNested
import Derived.RangeFuncBound
import Derived.RangeFuncLeaves
import Derived.RangeFuncFrom
import Derived.Shelf.Abstract
import Derived.Shelf.RegionOpen
import Derived.OwnWalkIn
import Derived.TacticsInMore
import Derived.LoopNIn
import Derived.LoopIn
namespace Go.Proofs.YtahiahboneljaaaGreatDoor
open Go.RowKit

theorem bld_info : (Tryz.prog.info? 78).map (·.size) = some 2 := by kernel_rfl
theorem bld_lies : liesAt Tryz.prog Tryz.prog.depth 78 (2 / Tryz.prog.cellsOf 78) 0 78 1 = true := by kernel_rfl
theorem inf_byte : (Tryz.prog.info? 5).map (fun i => (i.zero, i.size, i.bytes)) = some (some (.int .u8 0), 1, 1) := by kernel_rfl

set_option maxRecDepth 100000 in
set_option maxHeartbeats 1000000 in
theorem copyCheck_used (b : Nat) (w : World) (h0 : w.cell? ⟨b, 0, none⟩ = some (.pointer (some ⟨b, 0, none⟩))) :
    Calls Tryz.prog 96 #[.pointer (some ⟨b, 0, none⟩)] w fun e w' => e = .returned (.tuple #[]) ∧ w' = w := by
  obtain ⟨j, hj, _⟩ := Option.map_eq_some_iff.1 bld_info
  go_enter Tryz.func96, Tryz.ntmps96
  go_wp2
  rw [Lib.run_neq_ptr_same w _ Tryz.underlying76 hj]
  go_wp2
  go_end0
  exact ⟨rfl, rfl⟩

set_option maxRecDepth 100000 in
set_option maxHeartbeats 1000000 in
theorem copyCheck_fresh (b : Nat) (w : World) (h0 : w.cell? ⟨b, 0, none⟩ = some (.pointer none)) (hsh : w.shape? b = some (78, 2)) (hfz : w.frozen? ⟨b, 0, none⟩ = false) :
    Calls Tryz.prog 96 #[.pointer (some ⟨b, 0, none⟩)] w fun e w' => e = .returned (.tuple #[]) ∧ w' = w.setCell ⟨b, 0, none⟩ (.pointer (some ⟨b, 0, none⟩)) := by
  obtain ⟨j, hj, hjs⟩ := Option.map_eq_some_iff.1 bld_info
  go_enter Tryz.func96, Tryz.ntmps96
  go_wp2
  rw [Lib.run_to_unsafe w ⟨b, 0, none⟩ Tryz.underlying76 Tryz.underlying118 hj (by rw [hjs]; decide) hsh (Nat.zero_lt_succ 1)]
  simp only [Result.andThen]
  rw [Oper.upon_value]
  go_wp2
  rw [run_callFunc_extern Tryz.func109 (by kernel_rfl) (by kernel_rfl) (by kernel_rfl) (e := Extern.AbiNoEscape.same) (by kernel_rfl)]
  rw [Lib.run_noEscape]
  simp only [Result.andThen]
  rw [Oper.upon_value]
  go_wp2
  rw [Lib.run_from_unsafe w ⟨b, 0, none⟩ Tryz.underlying118 Tryz.underlying76 hj hsh bld_lies]
  simp only [Result.andThen]
  rw [Oper.upon_value]
  go_wp2
  go_end0
  exact ⟨rfl, rfl⟩

/-- A builder at b: what it holds. -/
def BldAt (b : Nat) (l : List UInt8) (w : World) : Prop := Lib.IsBuilder 78 5 b b (Lib.byteCells l) w
/-- A builder that has been written. -/
def BldUsed (b : Nat) (l : List UInt8) (w : World) : Prop := Lib.BuilderAt 78 5 b b (.pointer (some ⟨b, 0, none⟩)) (Lib.byteCells l) w
theorem BldUsed.any {b : Nat} {l : List UInt8} {w : World} (h : BldUsed b l w) : BldAt b l w := .inr h

/-- What a writer leaves alone: every block but the builder's and rows of bytes. -/
def Oth (b : Nat) (w w' : World) : Prop := Lib.OthersKept 5 (some b) w w'
theorem Oth.refl (b : Nat) (w : World) : Oth b w w := Lib.OthersKept.refl _ _ w
theorem Oth.trans {b : Nat} {a c d : World} (h : Oth b a c) (k : Oth b c d) : Oth b a d := Lib.OthersKept.trans h k
theorem Oth.keeps {b : Nat} {w w' : World} (h : Oth b w w') {l : List UInt8} (hb : BldAt b l w) (hs : w.heap.size ≤ w'.heap.size) : KeepsOthers w w' :=
  ⟨hs, fun k o hk ho => by
    refine h k o hk (fun e => ?_) (fun c fz e => ?_)
    · injection e with e
      subst e
      rcases hb with ⟨-, v, hv, -⟩ | ⟨-, v, hv, -⟩ <;> rw [hv] at hk <;> injection hk with hk <;> rw [← hk] at ho <;> cases ho
    · rw [e] at ho; cases ho⟩

theorem copyCheck_any (b : Nat) (l : List UInt8) (w : World) (h : BldAt b l w) :
    Calls Tryz.prog 96 #[.pointer (some ⟨b, 0, none⟩)] w fun e w' => e = .returned (.tuple #[]) ∧ BldUsed b l w' ∧ Below b w w' ∧ Oth b w w' := by
  rcases h with h | h
  · refine (copyCheck_fresh b w h.cell0 h.shape h.frozen0).mono ?_
    rintro e w' ⟨rfl, rfl⟩
    exact ⟨rfl, h.used _, (Below.refl b w).setCell (p := ⟨b, 0, none⟩) (Nat.le_refl _) _, (Lib.OthersKept.refl _ _ w).setCell ⟨b, 0, none⟩ rfl _⟩
  · refine (copyCheck_used b w h.cell0).mono ?_
    rintro e w' ⟨rfl, rfl⟩
    exact ⟨rfl, h, Below.refl b _, Oth.refl _ _⟩

set_option maxRecDepth 100000 in
set_option maxHeartbeats 2000000 in
theorem writeByte_any (b : Nat) (l : List UInt8) (x : UInt8) (w : World) (h : BldAt b l w) (hl : l.length ≤ bigN) :
    Calls Tryz.prog 80 #[.pointer (some ⟨b, 0, none⟩), .int .u8 x.toNat] w fun e w' => e = .returned .nilIface ∧ BldUsed b (l ++ [x]) w' ∧ Below b w w' ∧ Oth b w w' := by
  obtain ⟨i0, hi, hz0, hz1, hz2⟩ := info_parts inf_byte
  have hlen : (Lib.byteCells l).length = l.length := by simp [Lib.byteCells]
  go_enter Tryz.func80, Tryz.ntmps80
  go_wp2_with fail
  refine (copyCheck_any b l _ h).mono ?_
  rintro e w1 ⟨rfl, h1, hb1, hk1⟩
  obtain ⟨hB, v, hbk, hown, hne⟩ := h1
  have HB := hid hbk
  have HO := hid hown
  have HN := hid hlen
  have HNE := hid hne
  have HI := hid hi
  have HZ0 := hid hz0
  have HZ1 := hid hz1
  have HZ2 := hid hz2
  have c0 : w1.cell? ⟨b, 0, none⟩ = some (.pointer (some ⟨b, 0, none⟩)) := by rw [cell_of_block hbk]; rfl
  have c1 : w1.cell? ⟨b, 1, none⟩ = some v := by rw [cell_of_block hbk]; rfl
  have hlt := lt_of_block hbk
  clear hbk hown hlen hne hi hz0 hz1 hz2
  go_wp2_with (at_builtin; refine wpList_append_own _ rfl _ _ 22 rfl b 5 i0 (.int .u8 0) 1 1 Tryz.underlying22 HI.out HZ0.out HZ1.out HZ2.out rfl (by decide) _ _ _ rfl (HO.out.alloc _) ⟨w1.heap.size, 0, none⟩ 1 1 [.int .u8 x.toNat] rfl rfl ?c1 ?c2 ?c3 ?c4 ?c5 ?_)
  case c1 =>
    intro j u hj
    match j, hj with
    | 0, hj => simp at hj; subst hj; simp [Addr.add]
  case c2 => intro u hu; simp at hu; subst hu; rfl
  case c3 => have := HN.out; unfold maxLen; unfold bigN at hl; omega
  case c4 => have := HN.out; unfold bigN at hl; omega
  case c5 => simp; omega
  intro v' w2 hown' hgrow _
  have HO2 := hid hown'
  have HG := hid hgrow
  have hb2 : w2.heap[b]? = some (.cells #[.pointer (some ⟨b, 0, none⟩), v] 78 (0, 0)) := by
    rw [hgrow.block b (by simp; omega) (fun e => HNE.out e.symm), alloc_block HB.out]
  have HB2 := hid hb2
  have d0 : w2.cell? ⟨b, 0, none⟩ = some (.pointer (some ⟨b, 0, none⟩)) := by rw [cell_of_block hb2]; rfl
  have d1 : w2.cell? ⟨b, 1, none⟩ = some v := by rw [cell_of_block hb2]; rfl
  have f1 : w2.frozen? ⟨b, 1, none⟩ = false := frozen_of_block hb2 1
  obtain ⟨g, cap, rfl⟩ : ∃ g cap, v' = .slice (some ⟨g, 0, none⟩) (l.length + 1) cap := by
    rcases hown'.2 with ⟨_, h0⟩ | ⟨g, cap, cur, hv, _⟩
    · omega
    · exact ⟨g, cap, by rw [hv, HN.out]⟩
  clear hb2 hown' hgrow
  go_wp2
  go_ret
  have hbc : Lib.byteCells (l ++ [x]) = Lib.byteCells l ++ [.int .u8 x.toNat] := by simp [Lib.byteCells]
  refine ⟨rfl, ?_, ?_, ?_⟩
  · unfold BldUsed
    rw [hbc]
    refine Lib.BuilderAt.put (T := 78) (e := 5) (Nat.le_refl _) HB2.out (bs' := Lib.byteCells l ++ [.int .u8 x.toNat]) ?_ (by decide)
    have := HO2.out
    rw [HN.out] at this
    simpa [HN.out] using this
  · exact ((hb1.alloc (by omega) _).grown HG.out (by have := hb1.size; simp; omega) (fun k hk => (HO.out.lt k hk).1)).setCell (p := ⟨b, 1, none⟩) (Nat.le_refl _) _
  · exact ((Lib.OthersKept.alloc hk1 _).grown HG.out (Lib.ownsRow_kind (HO.out.alloc _))).setCell ⟨b, 1, none⟩ rfl _

set_option maxRecDepth 100000 in
set_option maxHeartbeats 2000000 in
theorem writeString_any (b : Nat) (l s : List UInt8) (w : World) (h : BldAt b l w) (hl : l.length ≤ bigN) (hs : s.length ≤ bigN) :
    Calls Tryz.prog 115 #[.pointer (some ⟨b, 0, none⟩), .string (bs s)] w fun e w' => e = .returned (.tuple #[.int .i64 s.length, .nilIface]) ∧ BldUsed b (l ++ s) w' ∧ Below b w w' ∧ Oth b w w' := by
  obtain ⟨i0, hi, hz0, hz1, hz2⟩ := info_parts inf_byte
  have hlen : (Lib.byteCells l).length = l.length := by simp [Lib.byteCells]
  go_enter Tryz.func115, Tryz.ntmps115
  go_wp2_with fail
  refine (copyCheck_any b l _ h).mono ?_
  rintro e w1 ⟨rfl, h1, hb1, hk1⟩
  obtain ⟨hB, v, hbk, hown, hne⟩ := h1
  have HB := hid hbk
  have HO := hid hown
  have HN := hid hlen
  have HNE := hid hne
  have HI := hid hi
  have HZ0 := hid hz0
  have HZ1 := hid hz1
  have HZ2 := hid hz2
  have c0 : w1.cell? ⟨b, 0, none⟩ = some (.pointer (some ⟨b, 0, none⟩)) := by rw [cell_of_block hbk]; rfl
  have c1 : w1.cell? ⟨b, 1, none⟩ = some v := by rw [cell_of_block hbk]; rfl
  have hlt := lt_of_block hbk
  clear hbk hown hlen hne hi hz0 hz1 hz2
  go_wp2_with (at_builtin; refine Lib.wpList_append_own_string _ rfl _ _ 22 9 rfl b 5 i0 Tryz.underlying22 Tryz.underlying9 HI.out HZ0.out HZ1.out HZ2.out _ _ _ rfl HO.out (bs s) rfl ?c3 ?c4 ?c5 ?_)
  case c3 => have := HN.out; rw [bs_size]; unfold maxLen; unfold bigN at hl hs; omega
  case c4 => have := HN.out; rw [bs_size]; unfold bigN at hl hs; omega
  case c5 => omega
  intro v' w2 hown' hgrow _
  have HO2 := hid hown'
  have HG := hid hgrow
  have hb2 : w2.heap[b]? = some (.cells #[.pointer (some ⟨b, 0, none⟩), v] 78 (0, 0)) := by
    rw [hgrow.block b hlt (fun e => HNE.out e.symm), HB.out]
  have HB2 := hid hb2
  have d0 : w2.cell? ⟨b, 0, none⟩ = some (.pointer (some ⟨b, 0, none⟩)) := by rw [cell_of_block hb2]; rfl
  have d1 : w2.cell? ⟨b, 1, none⟩ = some v := by rw [cell_of_block hb2]; rfl
  have f1 : w2.frozen? ⟨b, 1, none⟩ = false := frozen_of_block hb2 1
  obtain ⟨ao, n', cap, rfl⟩ : ∃ ao n' cap, v' = .slice ao n' cap := by
    rcases hown'.2 with ⟨hv, _⟩ | ⟨g, cap, cur, hv, _⟩
    · exact ⟨_, _, _, hv⟩
    · exact ⟨_, _, _, hv⟩
  clear hb2 hown' hgrow
  go_wp2
  go_ret2
  have hbc : Lib.byteCells (l ++ s) = Lib.byteCells l ++ Lib.strCells (bs s) := by simp [Lib.byteCells, Lib.strCells]
  refine ⟨rfl, ?_, ?_, ?_⟩
  · unfold BldUsed
    rw [hbc]
    refine Lib.BuilderAt.put (T := 78) (e := 5) (Nat.le_refl _) HB2.out (bs' := Lib.byteCells l ++ Lib.strCells (bs s)) ?_ (by decide)
    simpa [Lib.strCells_length] using HO2.out
  · exact (hb1.grown HG.out (by have := hb1.size; omega) (fun k hk => (HO.out.lt k hk).1)).setCell (p := ⟨b, 1, none⟩) (Nat.le_refl _) _
  · exact (Lib.OthersKept.grown hk1 HG.out (Lib.ownsRow_kind HO.out)).setCell ⟨b, 1, none⟩ rfl _
end Go.Proofs.YtahiahboneljaaaGreatDoor
namespace Go.Proofs.YtahiahboneljaaaGreatDoor
open Go.RowKit

theorem wraps_i64_31 (n : Int) (h₀ : 0 ≤ n) (h₁ : n < 2 ^ 31) : IntKind.i64.wrap n = n := by rw [IntKind.wrap_i64]; omega
theorem i64_or8 (n : Nat) (x : UInt8) (hn : n < 65536) : bits .or .i64 ((n : Int) * 256) (wrap64 (x.toNat : Int)) = ((n * 256 + x.toNat : Nat) : Int) := by
  have hx := x.toNat_lt
  have hw : wrap64 (x.toNat : Int) = x.toNat := by unfold wrap64; omega
  rw [hw, bits_join .i64 31 (by decide) wraps_i64_31 8 ((n : Int) * 256) x.toNat (by omega) (by omega) (by omega) (by omega) (by omega) (by omega)]
  omega
theorem i64_or6 (n : Nat) (x : Nat) (hn : n < 16777216) (hx : x < 64) : bits .or .i64 ((n : Int) * 64) (x : Int) = ((n * 64 + x : Nat) : Int) := by
  rw [bits_join .i64 31 (by decide) wraps_i64_31 6 ((n : Int) * 64) x (by omega) (by omega) (by omega) (by omega) (by omega) (by omega)]
  omega
theorem i64_and63 (x : Int) (h₀ : 0 ≤ x) (h₁ : x < 2147483648) : bits .and .i64 x 63 = x % 64 := bits_mask .i64 31 (by decide) wraps_i64_31 6 (by decide) x h₀ h₁
theorem int_eq {k : IntKind} {a b : Int} (h : a = b) : Value.int k a = Value.int k b := by rw [h]

theorem b3_bd2 (g : List UInt8) (i : Nat) (h : i ≤ 2) : b3 g i < 65536 := by
  have h1 := b3_le g i
  have h2 : 256 ^ i ≤ 256 ^ 2 := Nat.pow_le_pow_right (by omega) h
  omega
theorem sign_at (N k : Nat) (hN : N < 16777216) : ∃ q : Nat, q < 64 ∧ N / 2 ^ (18 - 6 * k) % 64 = q ∧ bits BinOp.and IntKind.i64 ((N : Int) / 2 ^ (18 - 6 * k)) 63 = (q : Int) := by
  have h1 : N / 2 ^ (18 - 6 * k) ≤ N := Nat.div_le_self _ _
  refine ⟨N / 2 ^ (18 - 6 * k) % 64, by omega, rfl, ?_⟩
  have e : ((N : Int) / 2 ^ (18 - 6 * k)) = ((N / 2 ^ (18 - 6 * k) : Nat) : Int) := by simp
  rw [e]
  generalize N / 2 ^ (18 - 6 * k) = M at h1
  rw [i64_and63 _ (by omega) (by omega)]
  omega
theorem b64Write_any (b : Nat) (l g : List UInt8) (w : World) (h : BldAt b l w) (hl : l.length ≤ 1000000) (h0 : g ≠ []) (h3 : g.length ≤ 3) :
    Calls Tryz.prog 63 #[.pointer (some ⟨b, 0, none⟩), .string (bs g)] w fun e w' => e = .returned (.tuple #[]) ∧ BldUsed b (l ++ four g) w' ∧ Below b w w' ∧ Oth b w w' := by
  have hg0 : 0 < g.length := List.length_pos_iff.mpr h0
  have HB := hid h
  have H4 := hid (four_eq g h0 h3)
  clear h h0
  go_enter Tryz.func63, Tryz.ntmps63
  go_wp2
  go_loop [4, 7] (fun t c => ∃ k : Nat, k ≤ 3 ∧ c = .int .i64 k ∧ t = .int .i64 (b3 g k)) (fun _ c => 3 - (intOf c).toNat)
  case atStart => exact ⟨0, by omega, rfl, rfl⟩
  case round =>
    obtain ⟨k, hk, rfl, rfl⟩ := hrel
    have hb := b3_bd g k hk
    by_cases hlt : k < 3
    · have hb2 := b3_bd2 g k (by omega)
      by_cases hin : k < g.length
      · have HX := hid (i64_or8 (b3 g k) g[k] hb2)
        have HE := hid (show b3 g (k + 1) = b3 g k * 256 + g[k].toNat by
          conv => lhs; unfold b3
          rw [List.getD_eq_getElem?_getD, List.getElem?_eq_getElem hin]; rfl)
        go_wp2
        go_round
        case rel =>
          refine ⟨k + 1, by omega, by go_num, int_eq ?_⟩
          rw [HE.out]; exact HX.out
        case measure => simp [intOf]; omega
      · have HE := hid (show b3 g (k + 1) = b3 g k * 256 by
          conv => lhs; unfold b3
          rw [List.getD_eq_getElem?_getD, List.getElem?_eq_none (by omega)]; simp)
        go_wp2
        go_round
        case rel =>
          refine ⟨k + 1, by omega, by go_num, int_eq ?_⟩
          rw [HE.out]; simp
        case measure => simp [intOf]; omega
    · obtain rfl : k = 3 := by omega
      generalize hB3 : b3 g 3 = N at hb
      have HN := hid hB3
      clear hB3
      go_wp2
      go_loopw [23] (fun c wr => ∃ k : Nat, k ≤ 4 ∧ c = .int .i64 k ∧ BldAt b (l ++ (List.range k).map (sg4 g)) wr ∧ (k ≠ 0 → BldUsed b (l ++ (List.range k).map (sg4 g)) wr) ∧ Below b w wr ∧ Oth b w wr) (fun c _ => 4 - (intOf c).toNat)
      case atStart => exact ⟨0, by omega, rfl, by simpa using HB.out, fun h => absurd rfl h, Below.refl _ _, Oth.refl _ _⟩
      case round =>
        obtain ⟨k, hk, rfl, hB, hU, hbw, hko⟩ := hrel
        have HBk := hid hB
        have HUk := hid hU
        have Hbw := hid hbw
        have Hko := hid hko
        clear hB hU hbw hko
        by_cases hlt : k < 4
        · by_cases hin : g.length < k
          · have HS := hid (show sg4 g k = 61 by unfold sg4; rw [if_pos hin])
            go_wp2_with fail
            refine (writeByte_any b (l ++ (List.range k).map (sg4 g)) 61 _ HBk.out (by simp; unfold bigN; omega)).mono ?_
            rintro e w1 ⟨rfl, hU1, hb1, hk1⟩
            go_wp2
            go_roundw
            case rel =>
              have e : l ++ (List.range (k + 1)).map (sg4 g) = (l ++ (List.range k).map (sg4 g)) ++ [61] := by rw [four_step, HS.out]; simp
              exact ⟨k + 1, by omega, by go_num, e ▸ hU1.any, fun _ => e ▸ hU1, Hbw.out.trans hb1, Hko.out.trans hk1⟩
            case measure => simp [intOf]; omega
          · have HS := hid (show sg4 g k = sgn (b3 g 3 / 2 ^ (18 - 6 * k) % 64) by unfold sg4; rw [if_neg hin])
            obtain ⟨q, hq1, hq2, hq3⟩ := sign_at N k hb
            have hq4 : (q : Int) < 64 := by omega
            have HQ2 := hid hq2
            clear hq2
            go_wp2_with fail
            refine (writeByte_any b (l ++ (List.range k).map (sg4 g)) _ _ HBk.out (by simp; unfold bigN; omega)).mono ?_
            rintro e w1 ⟨rfl, hU1, hb1, hk1⟩
            have hU2 : BldUsed b ((l ++ (List.range k).map (sg4 g)) ++ [sgn q]) w1 := by rw [← sgnS_get q (by rw [sgnS_size]; exact hq1)]; exact hU1
            clear hU1
            go_wp2
            go_roundw
            case rel =>
              have e : l ++ (List.range (k + 1)).map (sg4 g) = (l ++ (List.range k).map (sg4 g)) ++ [sgn q] := by rw [four_step, HS.out, HN.out, HQ2.out]; simp
              exact ⟨k + 1, by omega, by go_num, e ▸ hU2.any, fun _ => e ▸ hU2, Hbw.out.trans hb1, Hko.out.trans hk1⟩
            case measure => simp [intOf]; omega
        · obtain rfl : k = 4 := by omega
          go_wp2
          go_end0
          rw [H4.out]
          exact ⟨rfl, HUk.out (by omega), Hbw.out, Hko.out⟩
end Go.Proofs.YtahiahboneljaaaGreatDoor
namespace Go.Proofs.YtahiahboneljaaaGreatDoor
open Go.RowKit Go.Shelf
attribute [local go_sem] Oper.semAt_some

/-- A group of at most n bytes. -/
abbrev GB (n : Nat) : Type := { g : List UInt8 // g ≠ [] ∧ g.length ≤ n }

theorem group_at (text : List UInt8) (k size : Nat) (hk : k < text.length) (hs : 0 < size) : (text.drop k).take size ≠ [] ∧ ((text.drop k).take size).length ≤ size := by
  refine ⟨fun e => ?_, by simp; omega⟩
  have := congrArg List.length e
  rw [List.length_take, List.length_drop, List.length_nil] at this; omega
theorem cut_group (text : List UInt8) (k size : Nat) (hk : k < text.length) : (bs text).extract k (min ((k : Int) + size) text.length).toNat = bs ((text.drop k).take size) := by
  rw [extract_bs, bs_toList]
  congr 1
  rw [List.take_eq_take_iff]
  simp; omega

/-- What a round must leave alone: the two boxes. -/
def TwoKept (tb sb : Nat) (W W' : World) : Prop := W'.heap[tb]? = W.heap[tb]? ∧ W'.heap[sb]? = W.heap[sb]?
theorem TwoKept.t {tb sb : Nat} {A B C : World} (h : TwoKept tb sb A B) (k : TwoKept tb sb B C) : TwoKept tb sb A C := ⟨k.1.trans h.1, k.2.trans h.2⟩
theorem TwoKept.b {tb sb : Nat} {w : World} (h1 : tb < w.heap.size) (h2 : sb < w.heap.size) (W : World) (l : Nat) (o o' : Obj) (hl : w.heap.size ≤ l) (_h : W.heap[l]? = some o) (_ : o.isCells = false) (_ : o.isWalk = false) : TwoKept tb sb W (W.putObj l o') :=
  ⟨World.putObj_heap_other (by omega), World.putObj_heap_other (by omega)⟩
theorem TwoKept.cell {tb sb : Nat} {W W' : World} (h : TwoKept tb sb W W') {v : Value} : (W.cell? ⟨tb, 0, none⟩ = some v → W'.cell? ⟨tb, 0, none⟩ = some v) ∧ (W.cell? ⟨sb, 0, none⟩ = some v → W'.cell? ⟨sb, 0, none⟩ = some v) :=
  ⟨fun e => by rw [World.cell?_of_block (w := W) h.1]; exact e, fun e => by rw [World.cell?_of_block (w := W) h.2]; exact e⟩

theorem groups_stops (n : Nat) (text : List UInt8) (size tb sb : Nat) (w : World) (h0 : 0 < size) (h4 : size ≤ 4) (hl : text.length ≤ 1000)
    (ht : w.cell? ⟨tb, 0, none⟩ = some (.string (bs text))) (hsz : w.cell? ⟨sb, 0, none⟩ = some (.int .i64 size)) :
    SeqStopsK Fence.wide n Tryz.prog 79 #[.pointer (some ⟨tb, 0, none⟩), .pointer (some ⟨sb, 0, none⟩)] (fun g : GB size => #[.string (bs g.1)]) (TwoKept tb sb) (fun xs => xs.map (·.1) = grp size text) (fun _ => True) text.length w := fun l J Jx W hW hJ hJx hY hJ0 => by
  have ht1 : W.cell? ⟨tb, 0, none⟩ = some (.string (bs text)) := (hW.cell (p := ⟨tb, 0, none⟩) (lt_of_cell ht)).trans ht
  have hsz1 : W.cell? ⟨sb, 0, none⟩ = some (.int .i64 size) := (hW.cell (p := ⟨sb, 0, none⟩) (lt_of_cell hsz)).trans hsz
  clear ht hsz hW
  refine callsIn_of_wp Tryz.func79 rfl trivial ?_ rfl
  simp only [Tryz.ntmps79, List.size_toArray, List.length_cons, List.length_nil, Nat.reduceAdd, Nat.reduceSub, Array.replicate_succ, Array.replicate_zero, List.push_toArray, List.append_toArray, List.nil_append, List.cons_append]
  gi_wp2
  gi_loopw [4] (fun c wr => ∃ (k : Nat) (pre : List (GB size)), c = .int .i64 k ∧ pre.map (·.1) ++ grp size (text.drop k) = grp size text ∧ pre.length ≤ k ∧ wr.cell? ⟨tb, 0, none⟩ = some (.string (bs text)) ∧ wr.cell? ⟨sb, 0, none⟩ = some (.int .i64 size) ∧ J pre wr)
    (fun c _ => text.length - (intOf c).toNat)
  case atStart =>
    exact ⟨0, [], rfl, by simp, Nat.le_refl _, ht1, hsz1, hJ0⟩
  case round =>
    obtain ⟨k, pre, rfl, hx, hp, hct, hcs, hJs⟩ := hrel
    have HX := hid hx
    have HJ := hid hJs
    have HP := hid hp
    clear hx hJs hp
    by_cases hlt : k < text.length
    · have hgb := group_at text k size hlt h0
      have hlt' : (k : Int) < text.length := by omega
      have hmn : k ≤ (min ((k : Int) + size) text.length).toNat := by omega
      have hmx : (min ((k : Int) + size) text.length).toNat ≤ text.length := by omega
      have hm0 : 0 ≤ min ((k : Int) + size) text.length := by omega
      have HC := cut_group text k size hlt
      obtain ⟨fn, tmps, assign, body, hy, hR⟩ := hY pre ⟨(text.drop k).take size, hgb⟩ wr HJ.out (by have := HP.out; omega)
      dsimp only at hy
      gi_wp2_with fail
      refine ⟨fun h => (by cases h), hR.mono ?_⟩
      rintro e W3 (⟨rfl, hJ3, hk3⟩ | ⟨rfl, hJx3⟩)
      · have hct3 : W3.cell? ⟨tb, 0, none⟩ = some (.string (bs text)) := hk3.cell.1 hct
        have hcs3 : W3.cell? ⟨sb, 0, none⟩ = some (.int .i64 size) := hk3.cell.2 hcs
        clear hct hcs hy hR HC
        gi_wp2
        go_roundw
        case rel =>
          refine ⟨k + size, pre ++ [⟨(text.drop k).take size, hgb⟩], by go_num, ?_, ?_, hct3, hcs3, hJ3⟩
          · rw [← HX.out, grp_at size text k (by omega) hlt, List.map_append, List.append_assoc]; rfl
          · have := HP.out; simp only [List.length_append, List.length_cons, List.length_nil]; omega
        case measure => simp [intOf]; omega
      · gi_wp2
        refine bodyPost_ret (results_none rfl _ _ _) rfl ?_
        exact ⟨⟨_, rfl⟩, .inr ⟨pre ++ [⟨(text.drop k).take size, hgb⟩], trivial, hJx3⟩⟩
    · have hd : text.drop k = [] := List.drop_of_length_le (by omega)
      gi_wp2
      go_end0
      refine ⟨⟨_, rfl⟩, .inl ⟨pre, ?_, HJ.out⟩⟩
      have := HX.out
      rwa [hd, grp_nil, List.append_nil] at this

theorem groups_any (text : List UInt8) (n : Int) (w : World) :
    Calls Tryz.prog 62 #[.string (bs text), .int .i64 n] w fun e w' => e = .returned (.func (.func 79) #[] #[.pointer (some ⟨w.heap.size, 0, none⟩), .pointer (some ⟨w.heap.size + 1, 0, none⟩)]) ∧
      w' = (w.alloc (.cells #[.string (bs text)] 9)).alloc (.cells #[.int .i64 n] 3) := by
  have hmf : ∀ (fn : Fn) (first cap : Array Value) (w : World), (Instr.makeFunc fn first cap).run Tryz.prog w = .ok (.func fn first cap) w := fun _ _ _ _ => rfl
  go_enter Tryz.func62, Tryz.ntmps62
  go_wp2
  go_ret
  exact ⟨rfl, rfl⟩

theorem bld_grown {b : Nat} {l : List UInt8} {W W' : World} {row : Option Nat} (h : BldAt b l W) (hg : W.grownBy W' row) (hr : ∀ r, row = some r → ∃ o : Obj, W.heap[r]? = some o ∧ o.isCells = false) : BldAt b l W' := by
  have key : ∀ p, Lib.BuilderAt 78 5 b b p (Lib.byteCells l) W → Lib.BuilderAt 78 5 b b p (Lib.byteCells l) W' := by
    rintro p ⟨hB, v, hb, hown, hne⟩
    refine ⟨hB, v, ?_, hown.kept hg ?_, hne⟩
    · rw [hg.block b (lt_of_block hb) ?_]; exact hb
      intro e
      obtain ⟨o, h1, h2⟩ := hr b e.symm
      rw [hb] at h1; injection h1 with h1; rw [← h1] at h2; cases h2
    · cases hv : v.ownBlock with
      | none => exact .inl rfl
      | some g =>
        refine .inr (fun e => ?_)
        obtain ⟨o, h1, h2⟩ := hr g (e.symm.trans (by rfl))
        obtain ⟨c, fz, h3⟩ := Lib.ownsRow_kind hown g hv
        rw [h3] at h1; injection h1 with h1; rw [← h1] at h2; cases h2
  rcases h with h | h
  · exact .inl (key _ h)
  · exact .inr (key _ h)
end Go.Proofs.YtahiahboneljaaaGreatDoor
namespace Go.Proofs.YtahiahboneljaaaGreatDoor
open Go.RowKit Go.Shelf
attribute [local go_sem] Oper.semAt_some

theorem blk_grown {W W' : World} {row : Option Nat} {b : Nat} {o : Obj} (h : W.heap[b]? = some o) (ho : o.isCells = true) (hg : W.grownBy W' row) (hr : ∀ r, row = some r → ∃ o : Obj, W.heap[r]? = some o ∧ o.isCells = false) : W'.heap[b]? = some o := by
  rw [hg.block b (lt_of_block h) ?_]; exact h
  intro e
  obtain ⟨o', h1, h2⟩ := hr b e.symm
  rw [h] at h1; injection h1 with h1; subst h1; rw [ho] at h2; cases h2
theorem flat_len (pre : List (GB 3)) : ((pre.map (·.1)).flatMap four).length = 4 * pre.length := by
  induction pre with
  | nil => rfl
  | cons x r ih => rw [List.map_cons, List.flatMap_cons, List.length_append, ih, four_len _ x.2.1, List.length_cons]; omega
theorem new_blockN (w : World) (o : Obj) (n : Nat) (h : n = w.heap.size) : (w.alloc o).heap[n]? = some o := by subst h; exact new_block w o

set_option maxRecDepth 100000 in
set_option maxHeartbeats 2000000 in
theorem iEncode_any (l : List UInt8) (w : World) (hl : l.length ≤ 1000) :
    Calls Tryz.prog 33 #[.string (bs l)] w fun e w' => e = .returned (.string (bs (if 30 < l.length then [] else enc l))) ∧ Kept [] w w' := by
  by_cases h30 : 30 < l.length
  · have h30' : (30 : Int) < l.length := by omega
    rw [if_pos h30]
    refine (callsIn_wide (n := 5)).1 ?_
    refine callsIn_of_wp_marks Tryz.func33 rfl trivial ?_ rfl
    simp only [Tryz.ntmps33, List.size_toArray, List.length_cons, List.length_nil, Nat.reduceAdd, Nat.reduceSub, Array.replicate_succ, Array.replicate_zero, List.push_toArray, List.append_toArray, List.nil_append, List.cons_append]
    gi_wp2
    exact ⟨_, results_tmp rfl _ _ _, rfl, Kept.refl _ _⟩
  · have h30' : ¬ (30 : Int) < l.length := by omega
    rw [if_neg h30]
    refine (callsIn_wide (n := 5)).1 ?_
    refine callsIn_of_wp_marks Tryz.func33 rfl trivial ?_ rfl
    simp only [Tryz.ntmps33, List.size_toArray, List.length_cons, List.length_nil, Nat.reduceAdd, Nat.reduceSub, Array.replicate_succ, Array.replicate_zero, List.push_toArray, List.append_toArray, List.nil_append, List.cons_append]
    gi_wp2_with (refine ⟨trivial, ?_⟩; gi_at_call 62; refine (callsIn_wide.2 (groups_any l 3 _)).mono ?_; rintro e w' ⟨rfl, rfl⟩)
    have ht := cell_of_block (alloc_block (new_blockN (w.alloc (Obj.cells #[Value.pointer none, Value.slice none 0 0] 78)) (Obj.cells #[Value.string (bs l)] 9) (w.heap.size + 1) (by simp)) (Obj.cells #[Value.int IntKind.i64 3] 3)) 0
    have hs := cell_of_block (new_blockN ((w.alloc (Obj.cells #[Value.pointer none, Value.slice none 0 0] 78)).alloc (Obj.cells #[Value.string (bs l)] 9)) (Obj.cells #[Value.int IntKind.i64 3] 3) (w.heap.size + 1 + 1) (by simp)) 0
    simp at ht hs
    have hB0 : Below w.heap.size w (((w.alloc (Obj.cells #[Value.pointer none, Value.slice none 0 0] 78)).alloc (Obj.cells #[Value.string (bs l)] 9)).alloc (Obj.cells #[Value.int IntKind.i64 3] 3)) := (((Below.refl _ w).alloc (Nat.le_refl _) _).alloc (by simp) _).alloc (by simp; omega) _
    have hbld : BldAt w.heap.size [] (((w.alloc (Obj.cells #[Value.pointer none, Value.slice none 0 0] 78)).alloc (Obj.cells #[Value.string (bs l)] 9)).alloc (Obj.cells #[Value.int IntKind.i64 3] 3)) :=
      bld_grown (row := none) (Lib.fresh_isBuilder 78 5 w) ⟨rfl, rfl, rfl, by simp, fun k hk _ => by rw [Below.heap_alloc _ _ _ (by simp at hk ⊢; omega), Below.heap_alloc _ _ _ hk]⟩ (fun r e => by cases e)
    obtain ⟨W0, hW0⟩ : ∃ W0, (((w.alloc (Obj.cells #[Value.pointer none, Value.slice none 0 0] 78)).alloc (Obj.cells #[Value.string (bs l)] 9)).alloc (Obj.cells #[Value.int IntKind.i64 3] 3)) = W0 := ⟨_, rfl⟩
    have hsz : W0.heap.size = w.heap.size + 3 := by rw [← hW0]; simp
    rw [hW0] at ht hs hB0 hbld ⊢
    have hseq := groups_stops (5 - 1) l 3 (w.heap.size + 1) (w.heap.size + 1 + 1) W0 (by omega) (by omega) hl ht hs
    have htb : W0.heap[w.heap.size + 1]? = some (.cells #[.string (bs l)] 9) := by
      rw [← hW0]; exact alloc_block (new_blockN (w.alloc (Obj.cells #[Value.pointer none, Value.slice none 0 0] 78)) (Obj.cells #[Value.string (bs l)] 9) (w.heap.size + 1) (by simp)) _
    have hsb : W0.heap[w.heap.size + 1 + 1]? = some (.cells #[.int .i64 3] 3) := by
      rw [← hW0]; exact new_blockN ((w.alloc (Obj.cells #[Value.pointer none, Value.slice none 0 0] 78)).alloc (Obj.cells #[Value.string (bs l)] 9)) _ _ (by simp)
    have hI1 : OwnFrom W0.heap.size (fun (pre : List (GB 3)) W => BldAt w.heap.size ((pre.map (·.1)).flatMap four) W ∧ W.heap[w.heap.size + 1]? = some (.cells #[.string (bs l)] 9) ∧ W.heap[w.heap.size + 1 + 1]? = some (.cells #[.int .i64 3] 3)) := fun s A B row hs hg hr =>
      ⟨bld_grown hs.1 hg (fun r e => (hr r e).2), blk_grown hs.2.1 rfl hg (fun r e => (hr r e).2), blk_grown hs.2.2 rfl hg (fun r e => (hr r e).2)⟩
    refine wpIn_rangeFunc_ownF (F := Fence.wide) (n := 5) rfl (by omega) (gf := 79) (lb := #[.pointer (some ⟨w.heap.size + 1, 0, none⟩), .pointer (some ⟨w.heap.size + 1 + 1, 0, none⟩)]) rfl trivial (enters_of Tryz.func79 (by kernel_rfl) rfl)
      hseq TwoKept.t (TwoKept.b (by omega) (by omega)) (Below.refl _ _) (fun _ => rfl)
      (fun pre W => (BldAt w.heap.size ((pre.map (·.1)).flatMap four) W ∧ W.heap[w.heap.size + 1]? = some (.cells #[.string (bs l)] 9) ∧ W.heap[w.heap.size + 1 + 1]? = some (.cells #[.int .i64 3] 3)) ∧ Below w.heap.size w W)
      (fun _ _ _ => False)
      (OwnFrom.and hI1 (ownFrom_below (Nat.le_refl _) (by omega)))
      (fun _ _ _ _ _ hs _ _ => hs)
      ⟨⟨hbld, htb, hsb⟩, hB0⟩
      (fun x => { tmps := #[.string (bs l), undef, .string ⟨#[]⟩, .pointer (some ⟨w.heap.size, 0, none⟩), .string (bs x.1), .string (bs l), .int .i64 l.length, .bool false, .string (bs l), .func (.func 79) #[] #[.pointer (some ⟨w.heap.size + 1, 0, none⟩), .pointer (some ⟨w.heap.size + 1 + 1, 0, none⟩)], .string (bs x.1), undef, undef, undef], defers := [] }) ?assign ?body ?done ?stop
    case assign =>
      intro l x W K hK
      gi_wp2
      exact hK
    case body =>
      rintro l2 pre x W ⟨⟨hb, h1, h2⟩, hB⟩ hpre
      have hlen : ((pre.map (·.1)).flatMap four).length ≤ 1000000 := by
        have := flat_len pre; omega
      have H1 := hid h1
      have H2 := hid h2
      clear h1 h2 ht hs hW0 hbld htb hsb hI1 hseq
      gi_wp2_with fail
      refine ⟨trivial, (CallsIn.inRound l2 (callsIn_wide.2 (b64Write_any w.heap.size _ x.1 _ hb hlen x.2.1 x.2.2))).mono ?_⟩
      rintro e W3 ⟨rfl, hU, hB3, hO⟩
      have e1 := hO _ _ H1.out (by simp) (fun c fz e => by injection e with _ e _; cases e)
      have e2 := hO _ _ H2.out (by simp; omega) (fun c fz e => by injection e with _ e _; cases e)
      have hk := hO.keeps hb hB3.size
      have E1 := hid e1
      have E2 := hid e2
      clear e1 e2
      gi_wp2
      refine ⟨hk, ⟨E1.out.trans H1.out.symm, E2.out.trans H2.out.symm⟩, ⟨⟨?_, E1.out, E2.out⟩, hB.trans hB3⟩⟩
      rw [List.map_append, List.flatMap_append]
      simpa using hU.any
    case done =>
      rintro D ys W hD hys ⟨⟨hb, h1, h2⟩, hB⟩ hK
      rw [show (ys.map (·.1)).flatMap four = enc l by rw [hys]; rfl] at hb
      have HK := hid hK
      have HD : Hid (w.heap.size < D ∧ D < W.heap.size) := ⟨by omega, lt_of_block hK⟩
      clear h1 h2 ht hs hW0 hbld htb hsb hI1 hseq hK hys
      gi_wp2_with fail
      refine ⟨trivial, (callsIn_wide.2 (Tryz.Builder_String_any_k w.heap.size w.heap.size _ W (Lib.IsBuilderF.of hb) hB.size)).mono ?_⟩
      rintro e W3 ⟨rfl, hF, hB3, hO⟩
      have hK3 := hO _ _ HK.out (by have := HD.out; simp; omega) (fun c fz e => by cases e)
      gi_wp2
      refine ⟨by simp, .inl ⟨_, _, rfl, run_takeDeferred hK3, ?_⟩⟩
      refine ⟨_, results_tmp rfl _ _ _, ?_, ?_⟩
      · rfl
      · exact Kept.of_below ((hB.trans hB3).trans (belowK_b (w := w) (Nat.le_refl _) W3 D _ _ (by have := HD.out; omega) hK3 rfl rfl))
    case stop =>
      rintro D c pre W _ _ h _
      exact h.elim
end Go.Proofs.YtahiahboneljaaaGreatDoor
