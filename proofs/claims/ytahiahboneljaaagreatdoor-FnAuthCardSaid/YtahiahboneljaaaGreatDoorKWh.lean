/- The walks of base64 being read and of the plain text (impl). -/
import Derived.Test.YtahiahboneljaaaGreatDoorKWg
import Derived.Laws.IdiomStrings
import Derived.Test.YtahiahboneljaaaGreatDoorKP
import Derived.Test.YtahiahboneljaaaGreatDoorKWb
namespace Go.Proofs.YtahiahboneljaaaGreatDoor
open Go.RowKit

theorem index_all : ∀ n : Fin 256, Lib.indexByte sgnS.data.toList (UInt8.ofNat n) = sgI (UInt8.ofNat n) := by decide +kernel
theorem index_sgn (b : UInt8) : Lib.indexByte sgnS.data.toList ((b.toNat : Int).toNat.toUInt8) = sgI b := by
  have := index_all ⟨b.toNat, b.toNat_lt⟩
  simpa using this
theorem sgnIndex_any (b : UInt8) (w : World) : Calls Tryz.prog 122 #[.string sgnS, .int .u8 b.toNat] w fun e w' => e = .returned (.int .i64 (sgI b)) ∧ w' = w := by
  rw [← index_sgn]; exact Tryz.strings_IndexByte sgnS b.toNat w

theorem sgnN_bd (g : List UInt8) (h : g.length ≤ 4) : sgnN 0 g < 16777216 := by
  have h1 := sgnN_lt 0 g 1 (by omega)
  have h2 : 64 ^ g.length ≤ 64 ^ 4 := Nat.pow_le_pow_right (by omega) h
  omega

theorem shl_bd (N s j : Nat) (h : N < 64 ^ s) (hs : s + j ≤ 4) : N * 64 ^ j < 16777216 := by
  have h1 : N * 64 ^ j < 64 ^ s * 64 ^ j := Nat.mul_lt_mul_of_pos_right h (Nat.pow_pos (by omega))
  rw [← Nat.pow_add] at h1
  have h2 : 64 ^ (s + j) ≤ 64 ^ 4 := Nat.pow_le_pow_right (by omega) hs
  omega
theorem rd_at (g : List UInt8) (N j M : Nat) (hN : sgnN 0 (g.take (sgns g)) = N) (hj : j = 4 - sgns g) (hM : N * 64 ^ j = M) : rdG g = (three M).take (sgns g * 6 / 8) := by
  unfold rdG; rw [hN, ← hj, hM]
theorem conv3 (W : World) (M n : Nat) (hM : M < 16777216) (hn : n ≤ 3) :
    (convert 22 9 (.slice (some ⟨W.heap.size, 0, none⟩) n 3)).run Tryz.prog (W.alloc (.cells #[.int .u8 ((M : Int) / 65536), .int .u8 ((M : Int) / 256 % 256), .int .u8 ((M : Int) % 256)] 130)) =
      .ok (.string (bs ((three M).take n))) (W.alloc (.cells #[.int .u8 ((M : Int) / 65536), .int .u8 ((M : Int) / 256 % 256), .int .u8 ((M : Int) % 256)] 130)) := by
  have hl : ((three M).take n).length = n := by rw [List.length_take]; show min n 3 = n; omega
  have := run_convert_bytes_back (P := Tryz.prog) (W.alloc (.cells #[.int .u8 ((M : Int) / 65536), .int .u8 ((M : Int) / 256 % 256), .int .u8 ((M : Int) % 256)] 130)) 22 9 5 ⟨W.heap.size, 0, none⟩ 3 ((three M).take n) Tryz.underlying22 Tryz.underlying5 Tryz.underlying9 (fun j hj => by
    rw [Addr.add_lit, cell_of_block (new_block W _)]
    rw [hl] at hj
    have : j = 0 ∨ j = 1 ∨ j = 2 := by omega
    rcases this with rfl | rfl | rfl <;> simp [three] <;> omega)
  rw [hl] at this
  exact this
set_option maxRecDepth 100000 in
set_option maxHeartbeats 2000000 in
theorem b64Read_any (g : List UInt8) (w : World) (h4 : g.length ≤ 4) :
    Calls Tryz.prog 116 #[.string (bs g)] w fun e w' => e = .returned (.string (bs (rdG g))) ∧ Kept [] w w' := by
  have hle := sgns_le g
  have HIX := hid (fun (b : UInt8) (w : World) => sgnIndex_any b w)
  go_enter Tryz.func116, Tryz.ntmps116
  go_wp2
  go_loop [3, 4] (fun t c => ∃ k : Nat, k ≤ sgns g ∧ c = .int .i64 k ∧ t = .int .i64 (sgnN 0 (g.take k))) (fun _ c => 4 - (intOf c).toNat)
  case atStart => exact ⟨0, by omega, rfl, rfl⟩
  case round =>
    obtain ⟨k, hk, rfl, rfl⟩ := hrel
    have hbd := sgnN_bd (g.take k) (by rw [List.length_take]; omega)
    by_cases hlt : k < g.length
    · by_cases hs : k < sgns g
      · obtain ⟨_, m, hm⟩ := sgns_get g k hs
        have hm64 := sgv_lt hm
        have HI := hid (sgI_some hm)
        have HE := hid (show sgnN 0 (g.take (k + 1)) = sgnN 0 (g.take k) * 64 + m by
          rw [List.take_succ_eq_append_getElem hlt, sgnN_snoc, hm]; rfl)
        generalize hB : sgnN 0 (g.take k) = B at hbd
        have HB := hid hB
        have HO := hid (i64_or6 B m hbd hm64)
        clear hB hm
        go_wp2_with fail
        refine (HIX.out g[k] _).mono ?_
        rintro e w1 ⟨rfl, rfl⟩
        rw [HI.out]
        go_wp2
        go_round
        case rel =>
          refine ⟨k + 1, by omega, by go_num, int_eq ?_⟩
          rw [HE.out, HB.out]; exact HO.out
        case measure => simp [intOf]; omega
      · obtain rfl : k = sgns g := by omega
        have HI := hid (sgI_none (sgns_stop g hlt))
        go_wp2_with fail
        refine (HIX.out (g[sgns g]) _).mono ?_
        rintro e w1 ⟨rfl, rfl⟩
        rw [HI.out]
        go_wp2
        clear HI hs
        have h1 := sgnN_lt 0 (g.take (sgns g)) 1 (by omega)
        rw [List.length_take, Nat.min_eq_left hle, Nat.one_mul] at h1
        generalize hB : sgnN 0 (g.take (sgns g)) = N at hbd h1
        have HB := hid hB
        have hs4 : sgns g ≤ 4 := by omega
        clear hB
        go_loop [3, 25] (fun t c => ∃ j : Nat, j ≤ 4 - sgns g ∧ c = .int .i64 j ∧ t = .int .i64 ((N * 64 ^ j : Nat) : Int)) (fun _ c => 4 - (intOf c).toNat)
        case atStart => exact ⟨0, by omega, rfl, by simp⟩
        case round =>
          obtain ⟨j, hj, rfl, rfl⟩ := hrel
          have hb := shl_bd N (sgns g) j h1 (by omega)
          generalize hM : N * 64 ^ j = M at hb
          have HM := hid hM
          clear hM
          by_cases hlt : j < 4 - sgns g
          · have hlt' : (j : Int) < 4 - sgns g := by omega
            go_wp2
            go_round
            case rel =>
              refine ⟨j + 1, by omega, by go_num, int_eq ?_⟩
              rw [Nat.pow_succ, ← Nat.mul_assoc, HM.out]; omega
            case measure => simp [intOf]; omega
          · have HJ : Hid (j = 4 - sgns g) := by show _ = _; omega
            have hlt' : ¬ (j : Int) < 4 - sgns g := by omega
            clear hlt
            have hq0 : (0 : Int) ≤ (sgns g : Int) * 6 / 8 := by omega
            have hq3 : ((sgns g : Int) * 6 / 8) ≤ 3 := by omega
            have hrd := rd_at g N j M HB.out HJ.out HM.out
            have HRD := hid hrd
            clear hrd
            go_wp2
            rw [conv3 _ M (sgns g * 6 / 8) hb (by omega)]
            simp only [Result.andThen]
            rw [Oper.upon_value]
            go_wp2
            go_ret
            rw [HRD.out]
            exact ⟨rfl, (Kept.refl [] _).alloc _⟩
    · obtain rfl : k = sgns g := by omega
      go_wp2
      clear hlt
      have h1 := sgnN_lt 0 (g.take (sgns g)) 1 (by omega)
      rw [List.length_take, Nat.min_eq_left hle, Nat.one_mul] at h1
      generalize hB : sgnN 0 (g.take (sgns g)) = N at hbd h1
      have HB := hid hB
      have hs4 : sgns g ≤ 4 := by omega
      clear hB
      go_loop [3, 25] (fun t c => ∃ j : Nat, j ≤ 4 - sgns g ∧ c = .int .i64 j ∧ t = .int .i64 ((N * 64 ^ j : Nat) : Int)) (fun _ c => 4 - (intOf c).toNat)
      case atStart => exact ⟨0, by omega, rfl, by simp⟩
      case round =>
        obtain ⟨j, hj, rfl, rfl⟩ := hrel
        have hb := shl_bd N (sgns g) j h1 (by omega)
        generalize hM : N * 64 ^ j = M at hb
        have HM := hid hM
        clear hM
        by_cases hlt : j < 4 - sgns g
        · have hlt' : (j : Int) < 4 - sgns g := by omega
          go_wp2
          go_round
          case rel =>
            refine ⟨j + 1, by omega, by go_num, int_eq ?_⟩
            rw [Nat.pow_succ, ← Nat.mul_assoc, HM.out]; omega
          case measure => simp [intOf]; omega
        · have HJ : Hid (j = 4 - sgns g) := by show _ = _; omega
          have hlt' : ¬ (j : Int) < 4 - sgns g := by omega
          clear hlt
          have hq0 : (0 : Int) ≤ (sgns g : Int) * 6 / 8 := by omega
          have hq3 : ((sgns g : Int) * 6 / 8) ≤ 3 := by omega
          have hrd := rd_at g N j M HB.out HJ.out HM.out
          have HRD := hid hrd
          clear hrd
          go_wp2
          rw [conv3 _ M (sgns g * 6 / 8) hb (by omega)]
          simp only [Result.andThen]
          rw [Oper.upon_value]
          go_wp2
          go_ret
          rw [HRD.out]
          exact ⟨rfl, (Kept.refl [] _).alloc _⟩
end Go.Proofs.YtahiahboneljaaaGreatDoor
namespace Go.Proofs.YtahiahboneljaaaGreatDoor
open Go.RowKit Go.Shelf
attribute [local go_sem] Oper.semAt_some

theorem bld_kept {b : Nat} {l : List UInt8} {W W' : World} (h : BldAt b l W) (k : Kept [] W W') : BldAt b l W' :=
  bld_grown (row := none) h ⟨k.os, k.tape, k.output, k.size, fun i hi _ => k.block i hi (by simp)⟩ (fun r e => by cases e)
theorem Kept.keeps {W W' : World} (k : Kept [] W W') : KeepsOthers W W' := ⟨k.size, fun _ _ h _ => k.same h (by simp)⟩

def decRes (o : Option (List UInt8)) : Value := match o with
  | none => .tuple #[.string ⟨#[]⟩, .bool false]
  | some s => .tuple #[.string (bs s), .bool true]
theorem rdG_len (g : List UInt8) (_h : g.length ≤ 4) : (rdG g).length ≤ 3 := by
  unfold rdG three; simp; omega
theorem rdI_len (t : List UInt8) : (rdI t).length ≤ 3 * ((t.length + 3) / 4) := by
  induction hn : t.length using Nat.strongRecOn generalizing t with
  | _ n ih =>
    by_cases ht : t = []
    · subst ht; unfold rdI; rw [grp_nil]; simp
    · have h0 : 0 < t.length := List.length_pos_iff.mpr ht
      have hlt : (t.drop 4).length < n := by rw [List.length_drop]; omega
      rw [rdI_cons t ht, List.length_append]
      have h1 := ih _ hlt _ rfl
      have h2 := rdG_len (t.take 4) (by rw [List.length_take]; omega)
      rw [List.length_drop] at h1
      omega
theorem flat_len4 (pre : List (GB 4)) : ((pre.map (·.1)).flatMap rdG).length ≤ 3 * pre.length := by
  induction pre with
  | nil => exact Nat.le_refl _
  | cons x r ih => rw [List.map_cons, List.flatMap_cons, List.length_append, List.length_cons]; have := rdG_len x.1 x.2.2; omega
theorem str_ne (a b : List UInt8) : ((bs a).toList == (bs b).toList) = decide (a = b) := by
  rw [ByteArray.toList_eq, ByteArray.toList_eq, bs_toList, bs_toList, Bool.eq_iff_iff]; simp

set_option maxRecDepth 100000 in
set_option maxHeartbeats 2000000 in
theorem iDecode_any (l : List UInt8) (w : World) (_hl : l.length ≤ bigN) :
    Calls Tryz.prog 102 #[.string (bs l)] w fun e w' => e = .returned (decRes (dec l)) ∧ Kept [] w w' := by
  by_cases h40 : 40 < l.length
  · have h40' : (40 : Int) < l.length := by omega
    rw [dec_long (.inl h40)]
    refine (callsIn_wide (n := 5)).1 ?_
    refine callsIn_of_wp_marks Tryz.func102 rfl trivial ?_ rfl
    simp only [Tryz.ntmps102, List.size_toArray, List.length_cons, List.length_nil, Nat.reduceAdd, Nat.reduceSub, Array.replicate_succ, Array.replicate_zero, List.push_toArray, List.append_toArray, List.nil_append, List.cons_append]
    gi_wp2
    exact ⟨_, results_tmp2 rfl _ _ _, rfl, Kept.refl _ _⟩
  · have h40' : ¬ (40 : Int) < l.length := by omega
    refine (callsIn_wide (n := 5)).1 ?_
    refine callsIn_of_wp_marks Tryz.func102 rfl trivial ?_ rfl
    simp only [Tryz.ntmps102, List.size_toArray, List.length_cons, List.length_nil, Nat.reduceAdd, Nat.reduceSub, Array.replicate_succ, Array.replicate_zero, List.push_toArray, List.append_toArray, List.nil_append, List.cons_append]
    gi_wp2_with (refine ⟨trivial, ?_⟩; gi_at_call 62; refine (callsIn_wide.2 (groups_any l 4 _)).mono ?_; rintro e w' ⟨rfl, rfl⟩)
    have ht := cell_of_block (alloc_block (new_blockN (w.alloc (Obj.cells #[Value.pointer none, Value.slice none 0 0] 78)) (Obj.cells #[Value.string (bs l)] 9) (w.heap.size + 1) (by simp)) (Obj.cells #[Value.int IntKind.i64 4] 3)) 0
    have hs := cell_of_block (new_blockN ((w.alloc (Obj.cells #[Value.pointer none, Value.slice none 0 0] 78)).alloc (Obj.cells #[Value.string (bs l)] 9)) (Obj.cells #[Value.int IntKind.i64 4] 3) (w.heap.size + 1 + 1) (by simp)) 0
    simp at ht hs
    have hB0 : Below w.heap.size w (((w.alloc (Obj.cells #[Value.pointer none, Value.slice none 0 0] 78)).alloc (Obj.cells #[Value.string (bs l)] 9)).alloc (Obj.cells #[Value.int IntKind.i64 4] 3)) := (((Below.refl _ w).alloc (Nat.le_refl _) _).alloc (by simp) _).alloc (by simp; omega) _
    have hbld : BldAt w.heap.size [] (((w.alloc (Obj.cells #[Value.pointer none, Value.slice none 0 0] 78)).alloc (Obj.cells #[Value.string (bs l)] 9)).alloc (Obj.cells #[Value.int IntKind.i64 4] 3)) :=
      bld_grown (row := none) (Lib.fresh_isBuilder 78 5 w) ⟨rfl, rfl, rfl, by simp, fun k hk _ => by rw [Below.heap_alloc _ _ _ (by simp at hk ⊢; omega), Below.heap_alloc _ _ _ hk]⟩ (fun r e => by cases e)
    obtain ⟨W0, hW0⟩ : ∃ W0, (((w.alloc (Obj.cells #[Value.pointer none, Value.slice none 0 0] 78)).alloc (Obj.cells #[Value.string (bs l)] 9)).alloc (Obj.cells #[Value.int IntKind.i64 4] 3)) = W0 := ⟨_, rfl⟩
    have hsz : W0.heap.size = w.heap.size + 3 := by rw [← hW0]; simp
    rw [hW0] at ht hs hB0 hbld ⊢
    have hseq := groups_stops (5 - 1) l 4 (w.heap.size + 1) (w.heap.size + 1 + 1) W0 (by omega) (by omega) (by omega) ht hs
    have htb : W0.heap[w.heap.size + 1]? = some (.cells #[.string (bs l)] 9) := by
      rw [← hW0]; exact alloc_block (new_blockN (w.alloc (Obj.cells #[Value.pointer none, Value.slice none 0 0] 78)) (Obj.cells #[Value.string (bs l)] 9) (w.heap.size + 1) (by simp)) _
    have hsb : W0.heap[w.heap.size + 1 + 1]? = some (.cells #[.int .i64 4] 3) := by
      rw [← hW0]; exact new_blockN ((w.alloc (Obj.cells #[Value.pointer none, Value.slice none 0 0] 78)).alloc (Obj.cells #[Value.string (bs l)] 9)) _ _ (by simp)
    have hI1 : OwnFrom W0.heap.size (fun (pre : List (GB 4)) W => BldAt w.heap.size ((pre.map (·.1)).flatMap rdG) W ∧ W.heap[w.heap.size + 1]? = some (.cells #[.string (bs l)] 9) ∧ W.heap[w.heap.size + 1 + 1]? = some (.cells #[.int .i64 4] 3)) := fun s A B row hs hg hr =>
      ⟨bld_grown hs.1 hg (fun r e => (hr r e).2), blk_grown hs.2.1 rfl hg (fun r e => (hr r e).2), blk_grown hs.2.2 rfl hg (fun r e => (hr r e).2)⟩
    refine wpIn_rangeFunc_ownF (F := Fence.wide) (n := 5) rfl (by omega) (gf := 79) (lb := #[.pointer (some ⟨w.heap.size + 1, 0, none⟩), .pointer (some ⟨w.heap.size + 1 + 1, 0, none⟩)]) rfl trivial (enters_of Tryz.func79 (by kernel_rfl) rfl)
      hseq TwoKept.t (TwoKept.b (by omega) (by omega)) (Below.refl _ _) (fun _ => rfl)
      (fun pre W => (BldAt w.heap.size ((pre.map (·.1)).flatMap rdG) W ∧ W.heap[w.heap.size + 1]? = some (.cells #[.string (bs l)] 9) ∧ W.heap[w.heap.size + 1 + 1]? = some (.cells #[.int .i64 4] 3)) ∧ Below w.heap.size w W)
      (fun _ _ _ => False)
      (OwnFrom.and hI1 (ownFrom_below (Nat.le_refl _) (by omega)))
      (fun _ _ _ _ _ hs _ _ => hs)
      ⟨⟨hbld, htb, hsb⟩, hB0⟩
      (fun x => { tmps := #[.string (bs l), undef, .string ⟨#[]⟩, .bool false, .pointer (some ⟨w.heap.size, 0, none⟩), .string (bs x.1), undef, .string (bs l), .int .i64 l.length, .bool false, .string (bs l), .func (.func 79) #[] #[.pointer (some ⟨w.heap.size + 1, 0, none⟩), .pointer (some ⟨w.heap.size + 1 + 1, 0, none⟩)], .string (bs x.1), undef, undef, undef, undef, undef, undef, undef, undef, undef], defers := [] }) ?assign ?body ?done ?stop
    case assign =>
      intro l x W K hK
      gi_wp2
      exact hK
    case body =>
      rintro l2 pre x W ⟨⟨hb, h1, h2⟩, hB⟩ hpre
      have hlen : ((pre.map (·.1)).flatMap rdG).length ≤ bigN := by
        have := flat_len4 pre; unfold bigN; omega
      have hrl := rdG_len x.1 x.2.2
      have H1 := hid h1
      have H2 := hid h2
      have HB := hid hb
      clear h1 h2 ht hs hW0 hbld htb hsb hI1 hseq hb
      gi_wp2_with fail
      refine ⟨trivial, (CallsIn.inRound l2 (callsIn_wide.2 (b64Read_any x.1 _ x.2.2))).mono ?_⟩
      rintro e W2 ⟨rfl, hK2⟩
      have HK2 := hid hK2
      clear hK2
      gi_wp2_with fail
      refine ⟨trivial, (CallsIn.inRound l2 (callsIn_wide.2 (writeString_any w.heap.size _ (rdG x.1) _ (bld_kept HB.out HK2.out) hlen (by unfold bigN; omega)))).mono ?_⟩
      rintro e W3 ⟨rfl, hU, hB3, hO⟩
      have e1 := hO _ _ (HK2.out.same H1.out (by simp)) (by simp) (fun c fz e => by injection e with _ e _; cases e)
      have e2 := hO _ _ (HK2.out.same H2.out (by simp)) (by simp; omega) (fun c fz e => by injection e with _ e _; cases e)
      have hk := HK2.out.keeps.trans (hO.keeps (bld_kept HB.out HK2.out) hB3.size)
      have E1 := hid e1
      have E2 := hid e2
      clear e1 e2
      gi_wp2
      refine ⟨hk, ⟨E1.out.trans H1.out.symm, E2.out.trans H2.out.symm⟩, ⟨⟨?_, E1.out, E2.out⟩, hB.trans ((HK2.out.below.mono hB.size).trans hB3)⟩⟩
      rw [List.map_append, List.flatMap_append]
      simpa using hU.any
    case done =>
      rintro D ys W hD hys ⟨⟨hb, h1, h2⟩, hB⟩ hK
      rw [show (ys.map (·.1)).flatMap rdG = rdI l by rw [hys]; rfl] at hb
      have hrl := rdI_len l
      have HK := hid hK
      have HD : Hid (w.heap.size < D ∧ D < W.heap.size) := ⟨by omega, lt_of_block hK⟩
      have hne := str_ne (enc (rdI l)) l
      have hd : dec l = if enc (rdI l) = l then some (rdI l) else none := by
        unfold dec
        by_cases e : enc (rdI l) = l
        · rw [if_pos e, if_pos ⟨e, by omega⟩]
        · rw [if_neg e, if_neg (fun h => e h.1)]
      have HDE := hid hd
      have hrl2 : (rdI l).length ≤ 30 := by omega
      clear h1 h2 ht hs hW0 hbld htb hsb hI1 hseq hK hys hd
      gi_wp2_with fail
      refine ⟨trivial, (callsIn_wide.2 (Tryz.Builder_String_any_k w.heap.size w.heap.size _ W (Lib.IsBuilderF.of hb) hB.size)).mono ?_⟩
      rintro e W3 ⟨rfl, hF, hB3, hO⟩
      have hK3 := hO _ _ HK.out (by have := HD.out; simp; omega) (fun c fz e => by cases e)
      have HK3 := hid hK3
      clear hK3
      rw [show (⟨(rdI l).toArray⟩ : ByteArray) = bs (rdI l) from rfl]
      gi_wp2_with fail
      refine ⟨trivial, (callsIn_wide.2 (iEncode_any (rdI l) W3 (by omega))).mono ?_⟩
      rintro e W4 ⟨rfl, hK4⟩
      rw [if_neg (by omega)]
      have hK5 := hK4.same HK3.out (by simp)
      have HK5 := hid hK5
      have HK4 := hid hK4
      clear hK4 hK5
      by_cases heq : enc (rdI l) = l
      · rw [decide_eq_true heq] at hne
        have HR := hid (show dec l = some (rdI l) by rw [HDE.out, if_pos heq])
        clear heq
        gi_wp2
        refine ⟨by simp, .inl ⟨_, _, rfl, run_takeDeferred HK5.out, ?_⟩⟩
        refine ⟨_, results_tmp2 rfl _ _ _, ?_, ?_⟩
        · rw [HR.out]; rfl
        · exact Kept.of_below ((hB.trans (hB3.trans (HK4.out.below.mono (Nat.le_trans hB.size hB3.size)))).trans (belowK_b (w := w) (Nat.le_refl _) W4 D _ _ (by have := HD.out; omega) HK5.out rfl rfl))
      · rw [decide_eq_false heq] at hne
        have HR := hid (show dec l = none by rw [HDE.out, if_neg heq])
        clear heq
        gi_wp2
        refine ⟨by simp, .inl ⟨_, _, rfl, run_takeDeferred HK5.out, ?_⟩⟩
        refine ⟨_, results_tmp2 rfl _ _ _, ?_, ?_⟩
        · rw [HR.out]; rfl
        · exact Kept.of_below ((hB.trans (hB3.trans (HK4.out.below.mono (Nat.le_trans hB.size hB3.size)))).trans (belowK_b (w := w) (Nat.le_refl _) W4 D _ _ (by have := HD.out; omega) HK5.out rfl rfl))
    case stop =>
      rintro D c pre W _ _ h _
      exact h.elim
end Go.Proofs.YtahiahboneljaaaGreatDoor
namespace Go.Proofs.YtahiahboneljaaaGreatDoor
open Go.RowKit

/-- What the text of a user and a password is. -/
def makeP (u p : List UInt8) : List UInt8 := if isName u = true ∧ isName p = true then enc (0 :: (u ++ 0 :: p)) else []
def ppRes (o : Option (List UInt8 × List UInt8)) : Value := match o with
  | none => .tuple #[.string ⟨#[]⟩, .string ⟨#[]⟩, .bool false]
  | some (u, p) => .tuple #[.string (bs u), .string (bs p), .bool true]
def upRes (o : Option (List UInt8)) : Value := match o with
  | none => .tuple #[.string ⟨#[]⟩, .bool false]
  | some u => .tuple #[.string (bs u), .bool true]

theorem zero_bs : (⟨#[0]⟩ : ByteArray) = bs [0] := rfl
theorem append_bs2 (a b : List UInt8) : bs a ++ bs b = bs (a ++ b) := by
  rw [← toList_inj]; simp [bs]
theorem plain_bs (u p : List UInt8) : (⟨#[0]⟩ : ByteArray) ++ bs u ++ ⟨#[0]⟩ ++ bs p = bs (0 :: (u ++ 0 :: p)) := by
  rw [zero_bs, append_bs2, append_bs2, append_bs2]; simp

theorem iPlainMake_any (u p : List UInt8) (w : World) (hu : u.length ≤ bigN) (hp : p.length ≤ bigN) :
    Calls Tryz.prog 16 #[.string (bs u), .string (bs p)] w fun e w' => e = .returned (.string (bs (makeP u p))) ∧ Kept [] w w' := by
  cases h1 : isName u with
  | false =>
    have HR := hid (show makeP u p = [] by unfold makeP; rw [if_neg (by rw [h1]; simp)])
    go_enter Tryz.func16, Tryz.ntmps16
    go_wp2_with fail
    refine (iName_bs u _ hu).mono ?_
    rintro e w1 ⟨rfl, hK1⟩
    rw [h1]
    go_wp2
    go_ret
    exact ⟨ret_str (by rw [HR.out]; rfl), hK1⟩
  | true =>
    cases h2 : isName p with
    | false =>
      have HR := hid (show makeP u p = [] by unfold makeP; rw [if_neg (by rw [h2]; simp)])
      go_enter Tryz.func16, Tryz.ntmps16
      go_wp2_with fail
      refine (iName_bs u _ hu).mono ?_
      rintro e w1 ⟨rfl, hK1⟩
      rw [h1]
      go_wp2_with fail
      refine (iName_bs p _ hp).mono ?_
      rintro e w2 ⟨rfl, hK2⟩
      rw [h2]
      go_wp2
      go_ret
      exact ⟨ret_str (by rw [HR.out]; rfl), hK1.trans hK2⟩
    | true =>
      have hlu := isName_len h1
      have hlp := isName_len h2
      have HR := hid (show makeP u p = enc (0 :: (u ++ 0 :: p)) by unfold makeP; rw [if_pos ⟨h1, h2⟩])
      have HP := hid (plain_bs u p)
      have hl : (0 :: (u ++ 0 :: p)).length ≤ 18 := by simp; omega
      go_enter Tryz.func16, Tryz.ntmps16
      go_wp2_with fail
      refine (iName_bs u _ hu).mono ?_
      rintro e w1 ⟨rfl, hK1⟩
      rw [h1]
      go_wp2_with fail
      refine (iName_bs p _ hp).mono ?_
      rintro e w2 ⟨rfl, hK2⟩
      rw [h2]
      go_wp2_with fail
      rw [HP.out]
      refine (iEncode_any (0 :: (u ++ 0 :: p)) _ (by omega)).mono ?_
      rintro e w3 ⟨rfl, hK3⟩
      rw [if_neg (by omega)]
      go_wp2
      go_ret
      exact ⟨ret_str (by rw [HR.out]), (hK1.trans hK2).trans hK3⟩

theorem dec_len {t s : List UInt8} (h : dec t = some s) : s.length ≤ 30 := (dec_iff.1 h).2

theorem cutZ_any (s : List UInt8) (m : Int) (w : World) (hs : s.length ≤ 100) (hm : w.cell? ⟨0, 0, none⟩ = some (.int .i64 m)) :
    Calls Tryz.prog 103 #[.string (bs s), .string ⟨#[0]⟩] w fun e w' => e = .returned (.tuple #[.string (bs (Lib.cut s [0]).1), .string (bs (Lib.cut s [0]).2.1), .bool (Lib.cut s [0]).2.2]) ∧ Kept [] w w' := by
  have := Tryz.strings_Cut (bs s) ⟨#[0]⟩ m w (by rw [bs_size]; omega) hm
  rw [bs_toList] at this
  refine this.mono ?_
  rintro e w' ⟨rfl, n, rfl⟩
  exact ⟨rfl, (Kept.refl _ _).drewN _⟩
theorem cutPre_any (s : List UInt8) (w : World) :
    Calls Tryz.prog 89 #[.string (bs s), .string ⟨#[0]⟩] w fun e w' => e = .returned (.tuple #[.string (bs (if s.take 1 = [0] then s.drop 1 else s)), .bool (decide (s.take 1 = [0]))]) ∧ w' = w := by
  have := Tryz.strings_CutPrefix (bs s) ⟨#[0]⟩ w
  rw [bs_toList] at this
  have e1 : Lib.hasPrefix s [0] = decide (s.take 1 = [0]) := prefix_take s [0]
  have e2 : Lib.trimPrefix s [0] = if s.take 1 = [0] then s.drop 1 else s := by
    unfold Lib.trimPrefix; rw [e1]; simp
  rw [show (⟨#[0]⟩ : ByteArray).data.toList = [0] from rfl, e1, e2] at this
  exact this

theorem iPlainParse_any (t : List UInt8) (m : Int) (w : World) (ht : t.length ≤ bigN) (hm : w.cell? ⟨0, 0, none⟩ = some (.int .i64 m)) :
    Calls Tryz.prog 87 #[.string (bs t)] w fun e w' => e = .returned (ppRes (plainP t)) ∧ Kept [] w w' := by
  have HM := hid hm
  clear hm
  cases hd : dec t with
  | none =>
    have HR := hid (show plainP t = none by unfold plainP; rw [hd]; rfl)
    go_enter Tryz.func87, Tryz.ntmps87
    go_wp2_with fail
    refine (iDecode_any t _ ht).mono ?_
    rintro e w1 ⟨rfl, hK1⟩
    rw [hd, show decRes none = .tuple #[.string ⟨#[]⟩, .bool false] from rfl]
    go_wp2
    go_ret3
    exact ⟨by rw [HR.out]; rfl, hK1⟩
  | some s =>
    have hsl := dec_len hd
    have HR := hid (show plainP t = parseP s by unfold plainP; rw [hd]; rfl)
    have HC := hid (fun w => cutPre_any s w)
    by_cases hz : s.take 1 = [0]
    · obtain ⟨r, rfl⟩ : ∃ r, s = 0 :: r := by
        cases s with
        | nil => simp at hz
        | cons b r => simp at hz; exact ⟨r, by rw [hz]⟩
      have hpy := parse_yes r
      have hrl : r.length ≤ 29 := by simp at hsl; omega
      have HCT := hid (fun w h => cutZ_any r m w (by omega) h)
      have hcl : (Lib.cut r [0]).1.length ≤ 29 ∧ (Lib.cut r [0]).2.1.length ≤ 29 := by
        by_cases hm : (0 : UInt8) ∈ r
        · obtain ⟨p, q, rfl, hp⟩ := split_first hm
          rw [cut_some hp]; simp at hrl ⊢; omega
        · rw [cut_none hm]; simp; omega
      generalize Lib.cut r [0] = c at hpy HCT hcl
      obtain ⟨u, p, b⟩ := c
      dsimp only at hpy HCT hcl
      obtain ⟨hul, hpl⟩ := hcl
      have HPY := hid hpy
      have HD := hid hd
      clear hpy hz hd
      go_enter Tryz.func87, Tryz.ntmps87
      go_wp2_with fail
      refine (iDecode_any t _ ht).mono ?_
      rintro e w1 ⟨rfl, hK1⟩
      rw [HD.out, show decRes (some (0 :: r)) = .tuple #[.string (bs (0 :: r)), .bool true] from rfl]
      have HK1 := hid hK1
      clear hK1
      go_wp2_with fail
      refine (HC.out _).mono ?_
      rintro e w2 ⟨rfl, rfl⟩
      rw [if_pos (by rfl), decide_eq_true (by rfl), show (0 :: r : List UInt8).drop 1 = r from rfl]
      go_wp2_with fail
      refine (HCT.out _ (HK1.out.cell_some HM.out (by simp))).mono ?_
      rintro e w2 ⟨rfl, hK2⟩
      have HK2 := hid (HK1.out.trans hK2)
      clear hK2
      cases b with
      | false =>
        have HQ := hid (HR.out.trans (HPY.out.trans (if_neg (by simp))))
        go_wp2
        go_ret3
        exact ⟨by rw [HQ.out]; rfl, HK2.out⟩
      | true =>
        go_wp2_with fail
        refine (iName_bs u _ (by unfold bigN; omega)).mono ?_
        rintro e w3 ⟨rfl, hK3⟩
        have HK3 := hid (HK2.out.trans hK3)
        clear hK3
        cases h1 : isName u with
        | false =>
          have HQ := hid (HR.out.trans (HPY.out.trans (if_neg (by rw [h1]; simp))))
          go_wp2
          go_ret3
          exact ⟨by rw [HQ.out]; rfl, HK3.out⟩
        | true =>
          go_wp2_with fail
          refine (iName_bs p _ (by unfold bigN; omega)).mono ?_
          rintro e w4 ⟨rfl, hK4⟩
          have HK4 := hid (HK3.out.trans hK4)
          clear hK4
          cases h2 : isName p with
          | false =>
            have HQ := hid (HR.out.trans (HPY.out.trans (if_neg (by rw [h2]; simp))))
            go_wp2
            go_ret3
            exact ⟨by rw [HQ.out]; rfl, HK4.out⟩
          | true =>
            have HQ := hid (HR.out.trans (HPY.out.trans (if_pos (by simp [h1, h2]))))
            go_wp2
            go_ret3
            exact ⟨by rw [HQ.out]; rfl, HK4.out⟩
    · have HQ := hid (HR.out.trans (parse_no hz))
      have HZ := hid hz
      clear hz
      go_enter Tryz.func87, Tryz.ntmps87
      go_wp2_with fail
      refine (iDecode_any t _ ht).mono ?_
      rintro e w1 ⟨rfl, hK1⟩
      rw [hd, show decRes (some s) = .tuple #[.string (bs s), .bool true] from rfl]
      go_wp2_with fail
      refine (HC.out _).mono ?_
      rintro e w2 ⟨rfl, rfl⟩
      rw [if_neg HZ.out, decide_eq_false HZ.out]
      go_wp2
      go_ret3
      exact ⟨by rw [HQ.out]; rfl, hK1⟩

theorem usrHas_eq (us : List Usr) (n p : List UInt8) : usrHas us n p = usrProve us n p := by
  unfold usrHas usrProve usrSeek
  cases usersOk us <;> rfl

theorem plainU_none {us : List Usr} {t : List UInt8} (h : plainP t = none) : plainU us t = none := by unfold plainU; rw [h]; rfl
theorem plainU_some {us : List Usr} {t u p : List UInt8} (h : plainP t = some (u, p)) : plainU us t = if usrProve us u p = true then some u else none := by unfold plainU; rw [h]; rfl

theorem iUsersPlain_any (uv : Value) (us : List Usr) (t : List UInt8) (m : Int) (w : World) (hu : UsersAt 0 w uv us) (ht : t.length ≤ bigN) (hm : w.cell? ⟨0, 0, none⟩ = some (.int .i64 m)) :
    Calls Tryz.prog 72 #[uv, .string (bs t)] w fun e w' => e = .returned (upRes (plainU us t)) ∧ Kept [] w w' := by
  have HU := hid hu
  have HM := hid hm
  clear hu hm
  cases hp : plainP t with
  | none =>
    have HR := hid (plainU_none (us := us) hp)
    go_enter Tryz.func72, Tryz.ntmps72
    go_wp2_with fail
    refine (iPlainParse_any t m _ ht HM.out).mono ?_
    rintro e w1 ⟨rfl, hK1⟩
    rw [hp, show ppRes none = .tuple #[.string ⟨#[]⟩, .string ⟨#[]⟩, .bool false] from rfl]
    go_wp2
    go_ret2
    exact ⟨by rw [HR.out]; rfl, hK1⟩
  | some x =>
    obtain ⟨u, p⟩ := x
    have hr := plainU_some (us := us) hp
    have HHAS := hid (fun w h => iUsersProve_any 0 uv us (bs u) (bs p) w h)
    rw [bs_toList, bs_toList, usrHas_eq] at HHAS
    cases hh : usrProve us u p with
    | false =>
      rw [hh] at hr HHAS
      have HR := hid hr
      clear hr hh
      go_enter Tryz.func72, Tryz.ntmps72
      go_wp2_with fail
      refine (iPlainParse_any t m _ ht HM.out).mono ?_
      rintro e w1 ⟨rfl, hK1⟩
      rw [hp, show ppRes (some (u, p)) = .tuple #[.string (bs u), .string (bs p), .bool true] from rfl]
      go_wp2_with fail
      refine (HHAS.out _ (HU.out.kept0 hK1)).mono ?_
      rintro e w2 ⟨rfl, hK2⟩
      go_wp2
      go_ret2
      exact ⟨by rw [HR.out]; rfl, hK1.trans hK2⟩
    | true =>
      rw [hh] at hr HHAS
      have HR := hid hr
      clear hr hh
      go_enter Tryz.func72, Tryz.ntmps72
      go_wp2_with fail
      refine (iPlainParse_any t m _ ht HM.out).mono ?_
      rintro e w1 ⟨rfl, hK1⟩
      rw [hp, show ppRes (some (u, p)) = .tuple #[.string (bs u), .string (bs p), .bool true] from rfl]
      go_wp2_with fail
      refine (HHAS.out _ (HU.out.kept0 hK1)).mono ?_
      rintro e w2 ⟨rfl, hK2⟩
      go_wp2
      go_ret2
      exact ⟨by rw [HR.out]; rfl, hK1.trans hK2⟩
end Go.Proofs.YtahiahboneljaaaGreatDoor
