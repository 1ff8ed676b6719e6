/- The rows' common part. -/
import Derived.Test.YtoleonldkifcbaaGreatDoorCards
import Derived.Test.YtoleonldkifcbaaGreatDoorTie
import Derived.Test.YtoleonldkifcbaaGreatDoorKN
import Derived.ProofKit
import Derived.OpenShut
import Derived.OpenVars
import Derived.Below
import Derived.ChangeMaps5
import Derived.ShutString
import Derived.PinnedBridge
import Derived.Deep.DeepHandedRow
import Derived.Deep.DeepWitnessRowRef
import Derived.Lib.LaidTab
import Derived.Lib.LaidIn
import Derived.Great.CaseRows
namespace Go.Proofs.YtoleonldkifcbaaGreatDoor
open Go.ChangeShapes Go.WideShapes Go.ChangeAt Go.RowKit
set_option maxRecDepth 100000

theorem own : ownKnob Tryz.prog.godebug = none := by kernel_rfl
theorem laidOut : laidOutB Tryz.prog = true := by kernel_rfl
theorem cells_u8 : Tryz.prog.cellsOf 5 = 1 := by kernel_rfl

/-- A variable of one cell of type int holds some int. -/
theorem int_of_shape {P : Program} {w : World} {g : Nat} {t : TypeId} {zero : Array Value} (h : w.ShapedOpen P) (hg : g < P.globals.size)
    (h0 : ((begin P (fun _ _ => 0) default).world.heap[g]?).bind Obj.row? = some (zero, t)) (hz : zero.size = 1)
    (hb : P.buildable t = true) (hc : P.cellTypes P.depth t = some [t]) (hu : P.underlying t = some (.int .i64)) : ∃ m, w.cell? ⟨g, 0, none⟩ = some (.int .i64 m) := by
  obtain ⟨cs, hh, hs, hr⟩ := h.1 g zero t hg h0
  obtain ⟨ts, hts, _, hall⟩ := hr hb
  rw [hc] at hts
  cases hts
  have h1 : 0 < cs.size := by omega
  obtain ⟨u, hu', hok⟩ := hall 0 cs[0] (by simp [h1])
  have : u = t := by simpa using hu'.symm
  subst this
  have hcell : w.cell? ⟨g, 0, none⟩ = some cs[0] := by simp [World.cell?, hh, h1]
  rw [hcell]
  unfold Cell.ok at hok
  rw [hu] at hok
  cases hv : cs[0] <;> rw [hv] at hok <;> simp at hok
  rename_i k m
  obtain ⟨rfl, -⟩ := hok
  exact ⟨m, rfl⟩
theorem maxlen {W : World} (h : W.ShapedOpen Tryz.prog) : ∃ m, W.cell? ⟨1, 0, none⟩ = some (.int .i64 m) :=
  int_of_shape (zero := #[.int .i64 0]) (t := 3) h (of_decide_eq_true (by kernel_rfl)) (by kernel_rfl) rfl (by kernel_rfl) (by kernel_rfl) Tryz.underlying3

/-- An argument of bytes. -/
theorem code_open {H : Type} {enc : TypeId × Value → H} {W : World} {base : Nat} {v : Value} {d : DataW H} {p : List MemPlace}
    (hok : Value.okWide Tryz.prog W .any base 22 v) (h : DataW.Trod enc Tryz.prog W 0 (fun _ => true) true 22 v d p) : CodeAt W v := by
  obtain ⟨a0, len, cap, rfl⟩ := okWide_slice Tryz.underlying22 hok
  obtain ⟨fuel, hf⟩ := h
  rcases open_ints Tryz.underlying22 Tryz.underlying5 cells_u8 hf with ⟨hcs, hx⟩ | ⟨a, len', cap', zs, hcs, _, hl, hm, hz, hx, hcell, hwz⟩
  · simp [Value.cells] at hcs
    obtain ⟨rfl, rfl, rfl⟩ := hcs
    exact ⟨none, 0, 0, 0, [], rfl, Nat.le_refl _, by simp, by simp⟩
  · simp [Value.cells] at hcs
    obtain ⟨rfl, rfl, rfl⟩ := hcs
    simp only [if_true] at hz
    obtain ⟨b, off, spot⟩ := a
    have bnd : ∀ z ∈ zs, 0 ≤ z ∧ z ≤ 255 := fun z hz' => by
      have h5 := hwz z hz'
      have e1 : IntKind.u8.min = 0 := rfl
      have e2 : IntKind.u8.max = 255 := rfl
      simpa [Lit.wf, e1, e2] using h5
    have hlen : ((zs.take len).map fun z => UInt8.ofNat z.toNat).length = len := by simp; omega
    have hpl : 0 < zs.length → spot = none := fun h0 => by simpa [Addr.add] using World.cell?_spot (hcell 0 h0)
    refine ⟨some ⟨b, off, spot⟩, cap, b, off, (zs.take len).map fun z => UInt8.ofNat z.toNat, by rw [hlen], by rw [hlen]; exact hl, fun h0 => ?_, fun j hj => ?_⟩
    · rw [hlen] at h0
      have := hpl (by omega)
      subst this
      refine ⟨rfl, ?_⟩
      have := hcell 0 (by omega)
      exact lt_of_cell (a := ⟨b, off, none⟩) (by simpa [Addr.add] using this)
    · rw [hlen] at hj
      have := hpl (by omega)
      subst this
      have hj' : j < zs.length := by omega
      have hc := hcell j hj'
      rw [add_plain] at hc
      rw [hc]
      have hz := bnd zs[j] (List.getElem_mem hj')
      have hg : zs.getD j 0 = zs[j] := by simp [List.getD, List.getElem?_eq_getElem hj']
      rw [hg]
      simp only [List.getElem_map, List.getElem_take]
      congr 2
      rw [UInt8.toNat_ofNat_of_lt' (by show _ < 256; omega)]
      omega


/-- The table of the flags' names, as the row lists it. -/
theorem flags_of {W : World} (h : laidMet Tryz.prog Rows.fnKeyFormatRow.laid W) : FlagsAt W := by
  obtain ⟨ps, h, -⟩ := h
  obtain ⟨g1, t1, cs1, f1, p1, q1, -, -, -, -, h, -⟩ := h
  obtain ⟨g2, t2, cs2, f2, p2, q2, -, -, -, -, h, -⟩ := h
  obtain ⟨g3, t3, cs3, f3, p3, q3, -, -, -, -, h, -⟩ := h
  obtain ⟨g4, t4, cs4, f4, p4, q4, -, -, -, -, h, -⟩ := h
  obtain ⟨g, t, cs, fuel, p, q, hg, ht, hv, hd, -, -⟩ := h
  have e1 : Tryz.prog.globalNamed "loop.example/mailhost/impl.flagNames" = some 0 := by kernel_rfl
  have e2 : (Tryz.prog.globals[0]?).map (·.type) = some 92 := by kernel_rfl
  obtain rfl := Option.some.inj (e1.symm.trans hg)
  obtain rfl := Option.some.inj (e2.symm.trans ht)
  have hct : Tryz.prog.cellsOf 9 = 1 := by kernel_rfl
  cases fuel with
  | zero => simp [DataW.trod] at hd
  | succ fuel =>
    simp only [DataW.trod, Tryz.underlying92, hct, Nat.mul_one] at hd
    split at hd
    · rename_i hl
      obtain ⟨xs, hm, hx⟩ := Option.map_eq_some_iff.1 hd
      have hr : List.range 5 = [0, 1, 2, 3, 4] := rfl
      rw [hr] at hm
      simp only [List.mapM_cons, List.mapM_nil, Option.bind_eq_bind, Option.bind_eq_some_iff, Option.pure_def, Option.some.injEq] at hm
      obtain ⟨x0, h0, ys0, ⟨x1, h1, ys1, ⟨x2, h2, ys2, ⟨x3, h3, ys3, ⟨x4, h4, ys4, rfl, rfl⟩, rfl⟩, rfl⟩, rfl⟩, rfl⟩ := hm
      obtain ⟨s0, k0, rfl, -⟩ := DataW.trod_string Tryz.underlying9 h0
      obtain ⟨s1, k1, rfl, -⟩ := DataW.trod_string Tryz.underlying9 h1
      obtain ⟨s2, k2, rfl, -⟩ := DataW.trod_string Tryz.underlying9 h2
      obtain ⟨s3, k3, rfl, -⟩ := DataW.trod_string Tryz.underlying9 h3
      obtain ⟨s4, k4, rfl, -⟩ := DataW.trod_string Tryz.underlying9 h4
      have hy := congrArg Prod.fst hx
      simp only [Rows.laid_loop_example_mailhost_impl_flagNames, List.map_cons, List.map_nil, DataW.agg.injEq, List.cons.injEq, DataW.lit.injEq, Lit.string.injEq, and_true] at hy
      obtain ⟨y0, y1, y2, y3, y4⟩ := hy
      have cell : ∀ i (s : ByteArray) (l : List UInt8), (cs.toList.drop i).take 1 = [.string s] → s.data.toList = l → W.cell? ⟨0, i, none⟩ = some (.string ⟨l.toArray⟩) := fun i s l hk hl => by
        rw [World.var?_cell e1 hv i]
        have h1 : cs.toList[i]? = some (.string s) := by
          have := congrArg (·[0]?) hk
          simpa using this
        have h2 : s = ⟨l.toArray⟩ := by subst hl; rfl
        rw [← h2]
        simpa using h1
      exact ⟨cell 0 s0 _ k0 y0, cell 1 s1 _ k1 y1, cell 2 s2 _ k2 y2, cell 3 s3 _ k3 y3, cell 4 s4 _ k4 y4⟩
    · cases hd

/-- The row's last step, for a law of bytes, beside the flags' names. -/
theorem contractB (f : FuncId) (fn : Func) (spec : ChangeSpec) (hp : fn.params = #[22]) (hr : fn.resultTypes = #[4]) (hvars : spec.vars = ["loop.example/mailhost/impl.flagNames"])
    (hspec : ∀ (H : Type) (d g : DataW H), spec.fn H [d, g] = { results := [.lit (.bool true)], args := [d], vars := [g] })
    (walk : ∀ (v : Value) (m : Int) (w : World), CodeAt w v → w.cell? ⟨1, 0, none⟩ = some (.int .i64 m) → FlagsAt w → Calls Tryz.prog f #[v] w fun e w' => e = .returned (.bool true) ∧ Kept [] w w')
    (H : Type) (enc : TypeId × Value → H) (W : World) (base : Nat) (args : Array Value) (ds gs : List (DataW H)) (before : List MemPlace)
    (hval : ∀ (j : Nat) t v, fn.params[j]? = some t → args[j]? = some v → Value.okWide Tryz.prog W .any base t v)
    (hW : DataW.Whole enc Tryz.prog fn.params.toList spec.vars false W args.toList ds gs before) (hsh : W.ShapedOpen Tryz.prog) (hF : FlagsAt W) :
    Calls Tryz.prog f args W fun e W' => ∃ v, e = .returned v ∧ spec.post enc Tryz.prog fn false true false false W args v W' := by
  have hW' := hW
  obtain ⟨p, q, hA, hV, rfl, _, _⟩ := hW
  rw [hp] at hA hval
  rw [hvars] at hV
  obtain ⟨v0, d0, hargs0, rfl, h0⟩ := trodAll_one hA
  obtain rfl : args = #[v0] := by cases args; simp_all
  obtain ⟨d1, rfl⟩ : ∃ d1, gs = [d1] := by obtain ⟨_, _, _, _, d, _, h, -⟩ := trodVars_one hV; exact ⟨d, h⟩
  have hlt : ∀ x ∈ p, x.block < W.heap.size := fun x hx => hW'.lt x (by simp [hx])
  have hargs : ∀ (W' : World), Below W.heap.size W W' → DataW.Trod enc Tryz.prog W' 0 (fun b => decide (b < W.heap.size)) true 22 v0 d0 p :=
    fun W' hn => Below.trod laidOut (by kernel_rfl) (of_decide_eq_true (by kernel_rfl)) h0 hn hlt
  obtain ⟨m, hm⟩ := maxlen hsh
  refine (walk v0 m W (code_open (hval 0 _ v0 rfl rfl) h0) hm hF).mono fun e W' ⟨he, hk⟩ => ?_
  subst he
  have hn := hk.below
  refine ⟨_, rfl, [d0], [d1], p ++ q, [], p, q, hW', ?_, ?_, ?_, hn.frame _, fun h => by cases h⟩
  · rw [hr]
    show DataW.TrodAll _ _ _ _ _ _ _ _ (spec.fn H [d0, d1]).results _
    rw [hspec]
    exact trodAll_mk1 (shut_bool Tryz.underlying4 _)
  · rw [hp]
    show DataW.TrodAll _ _ _ _ _ _ _ _ (spec.fn H [d0, d1]).args _
    rw [hspec]
    exact trodAll_mk1 (hargs _ hn)
  · rw [hvars]
    show DataW.TrodVars _ _ _ _ _ (spec.fn H [d0, d1]).vars _
    rw [hspec]
    exact Below.trodVars laidOut hn (by kernel_rfl) hV
/-- The row's last step, for a law of a text, beside the flags' names. -/
theorem contractT (f : FuncId) (fn : Func) (spec : ChangeSpec) (hp : fn.params = #[9]) (hr : fn.resultTypes = #[4]) (hvars : spec.vars = ["loop.example/mailhost/impl.flagNames"])
    (hspec : ∀ (H : Type) (d g : DataW H), spec.fn H [d, g] = { results := [.lit (.bool true)], args := [d], vars := [g] })
    (walk : ∀ (s : ByteArray) (m : Int) (w : World), w.cell? ⟨1, 0, none⟩ = some (.int .i64 m) → FlagsAt w → Calls Tryz.prog f #[.string s] w fun e w' => e = .returned (.bool true) ∧ Kept [] w w')
    (H : Type) (enc : TypeId × Value → H) (W : World) (base : Nat) (args : Array Value) (ds gs : List (DataW H)) (before : List MemPlace)
    (hval : ∀ (j : Nat) t v, fn.params[j]? = some t → args[j]? = some v → Value.okWide Tryz.prog W .any base t v)
    (hW : DataW.Whole enc Tryz.prog fn.params.toList spec.vars false W args.toList ds gs before) (hsh : W.ShapedOpen Tryz.prog) (hF : FlagsAt W) :
    Calls Tryz.prog f args W fun e W' => ∃ v, e = .returned v ∧ spec.post enc Tryz.prog fn false true false false W args v W' := by
  have hW' := hW
  obtain ⟨p, q, hA, hV, rfl, _, _⟩ := hW
  rw [hp] at hA hval
  rw [hvars] at hV
  obtain ⟨v0, d0, hargs0, rfl, h0⟩ := trodAll_one hA
  obtain rfl : args = #[v0] := by cases args; simp_all
  obtain ⟨s0, rfl⟩ := okWide_string Tryz.underlying9 (hval 0 _ v0 rfl rfl)
  obtain ⟨d1, rfl⟩ : ∃ d1, gs = [d1] := by obtain ⟨_, _, _, _, d, _, h, -⟩ := trodVars_one hV; exact ⟨d, h⟩
  have hlt : ∀ x ∈ p, x.block < W.heap.size := fun x hx => hW'.lt x (by simp [hx])
  have hargs : ∀ (W' : World), Below W.heap.size W W' → DataW.Trod enc Tryz.prog W' 0 (fun b => decide (b < W.heap.size)) true 9 (.string s0) d0 p :=
    fun W' hn => Below.trod laidOut (by kernel_rfl) (of_decide_eq_true (by kernel_rfl)) h0 hn hlt
  obtain ⟨m, hm⟩ := maxlen hsh
  refine (walk s0 m W hm hF).mono fun e W' ⟨he, hk⟩ => ?_
  subst he
  have hn := hk.below
  refine ⟨_, rfl, [d0], [d1], p ++ q, [], p, q, hW', ?_, ?_, ?_, hn.frame _, fun h => by cases h⟩
  · rw [hr]
    show DataW.TrodAll _ _ _ _ _ _ _ _ (spec.fn H [d0, d1]).results _
    rw [hspec]
    exact trodAll_mk1 (shut_bool Tryz.underlying4 _)
  · rw [hp]
    show DataW.TrodAll _ _ _ _ _ _ _ _ (spec.fn H [d0, d1]).args _
    rw [hspec]
    exact trodAll_mk1 (hargs _ hn)
  · rw [hvars]
    show DataW.TrodVars _ _ _ _ _ (spec.fn H [d0, d1]).vars _
    rw [hspec]
    exact Below.trodVars laidOut hn (by kernel_rfl) hV

/-- A variable's cells, laid. -/
def putCells (h : Array Obj) (g : Nat) (cs : Array Value) : Array Obj := h.modify g fun
  | .cells _ t frozen => .cells cs t frozen
  | o => o
noncomputable abbrev N0 : Nat := (World.settled Tryz.prog default).heap.size
/-- The witness's world: the settled one with a block more (the rows of unicode.CaseRanges), the listed variables holding what the program's text lays. -/
noncomputable def laidWorld (os : Os) : World :=
  let N := (World.settled Tryz.prog os).heap.size
  let w0 := World.holding Tryz.prog os ⟨#[.cells (Lib.caseT.flatMap Lib.cells5).toArray 161], #[], []⟩
  let h1 := putCells w0.heap 6 #[.int .u8 0, .int .u8 1, .int .u8 28, .int .u8 2, .int .u8 29, .int .u8 14, .int .u8 24, .int .u8 3, .int .u8 30, .int .u8 22, .int .u8 20, .int .u8 15, .int .u8 25, .int .u8 17, .int .u8 4, .int .u8 8, .int .u8 31, .int .u8 27, .int .u8 13, .int .u8 23, .int .u8 21, .int .u8 19, .int .u8 16, .int .u8 7, .int .u8 26, .int .u8 12, .int .u8 18, .int .u8 6, .int .u8 11, .int .u8 5, .int .u8 10, .int .u8 9]
  let h2 := putCells h1 7 #[.int .u8 0, .int .u8 1, .int .u8 56, .int .u8 2, .int .u8 57, .int .u8 49, .int .u8 28, .int .u8 3, .int .u8 61, .int .u8 58, .int .u8 42, .int .u8 50, .int .u8 38, .int .u8 29, .int .u8 17, .int .u8 4, .int .u8 62, .int .u8 47, .int .u8 59, .int .u8 36, .int .u8 45, .int .u8 43, .int .u8 51, .int .u8 22, .int .u8 53, .int .u8 39, .int .u8 33, .int .u8 30, .int .u8 24, .int .u8 18, .int .u8 12, .int .u8 5, .int .u8 63, .int .u8 55, .int .u8 48, .int .u8 27, .int .u8 60, .int .u8 41, .int .u8 37, .int .u8 16, .int .u8 46, .int .u8 35, .int .u8 44, .int .u8 21, .int .u8 52, .int .u8 32, .int .u8 23, .int .u8 11, .int .u8 54, .int .u8 26, .int .u8 40, .int .u8 15, .int .u8 34, .int .u8 20, .int .u8 31, .int .u8 10, .int .u8 25, .int .u8 14, .int .u8 19, .int .u8 9, .int .u8 13, .int .u8 8, .int .u8 7, .int .u8 6]
  let h3 := putCells h2 5 #[.int .u64 1, .int .u64 10, .int .u64 100, .int .u64 1000, .int .u64 10000, .int .u64 100000, .int .u64 1000000, .int .u64 10000000, .int .u64 100000000, .int .u64 1000000000, .int .u64 10000000000, .int .u64 100000000000, .int .u64 1000000000000, .int .u64 10000000000000, .int .u64 100000000000000, .int .u64 1000000000000000, .int .u64 10000000000000000, .int .u64 100000000000000000, .int .u64 1000000000000000000, .int .u64 10000000000000000000]
  let h4 := putCells h3 4 #[.int .u8 128, .int .u8 191, .int .u8 160, .int .u8 191, .int .u8 128, .int .u8 159, .int .u8 144, .int .u8 191, .int .u8 128, .int .u8 143, .int .u8 0, .int .u8 0, .int .u8 0, .int .u8 0, .int .u8 0, .int .u8 0, .int .u8 0, .int .u8 0, .int .u8 0, .int .u8 0, .int .u8 0, .int .u8 0, .int .u8 0, .int .u8 0, .int .u8 0, .int .u8 0, .int .u8 0, .int .u8 0, .int .u8 0, .int .u8 0, .int .u8 0, .int .u8 0]
  let h5 := putCells h4 0 #[.string ⟨#[83, 101, 101, 110]⟩, .string ⟨#[65, 110, 115, 119, 101, 114, 101, 100]⟩, .string ⟨#[70, 108, 97, 103, 103, 101, 100]⟩, .string ⟨#[68, 101, 108, 101, 116, 101, 100]⟩, .string ⟨#[68, 114, 97, 102, 116]⟩]
  let h6 := putCells h5 2 #[.slice (some ⟨N, 0, none⟩) 336 336]
  let h7 := putCells h6 3 (Go.Pinned.utf8FirstZ.map fun (n : Nat) => Value.int .u8 (n : Nat)).toArray
  { w0 with heap := h7 }
theorem case_types : Great.CTypes Tryz.prog 140 161 159 146 21 :=
  ⟨by kernel_rfl, by kernel_rfl, by kernel_rfl, by kernel_rfl, by kernel_rfl, by kernel_rfl, by kernel_rfl, by kernel_rfl, by kernel_rfl⟩
theorem piece0 (os : Os) (args : Array Value) : LaidIn Tryz.prog ((laidWorld os).forCall (fun _ _ => 0) ⟨#[], args, []⟩).memory (Rows.fnKeyFormatRow.laid.take 5) [6, 7, 5, 4, 0] :=
  LaidIn.of_run _ 8 (by kernel_rfl) (by kernel_rfl) (by kernel_rfl) (by kernel_rfl)
theorem piece1 (os : Os) (args : Array Value) : LaidIn Tryz.prog ((laidWorld os).forCall (fun _ _ => 0) ⟨#[], args, []⟩).memory [("unicode.CaseRanges", Lib.caseData)] [2, N0] :=
  Great.laidIn_case (tg := 140) (tb := 161) case_types Lib.caseT (by kernel_rfl) (by kernel_rfl) (by decide) Lib.rowsWf (by kernel_rfl) (by kernel_rfl) (of_decide_eq_true (by kernel_rfl))
theorem piece2 (os : Os) (args : Array Value) : LaidIn Tryz.prog ((laidWorld os).forCall (fun _ _ => 0) ⟨#[], args, []⟩).memory [("unicode/utf8.first", Rows.laid_unicode_utf8_first)] [3] :=
  LaidIn.of_run _ 8 (by kernel_rfl) (by kernel_rfl) (by kernel_rfl) (by kernel_rfl)
theorem laid_met (os : Os) (args : Array Value) : laidMet Tryz.prog Rows.fnKeyFormatRow.laid ((laidWorld os).forCall (fun _ _ => 0) ⟨#[], args, []⟩).memory := by
  have h := (((piece0 os args).append (piece1 os args) (by kernel_rfl)).append (piece2 os args) (by kernel_rfl)).met
  rw [← Pinned.caseRanges_eq] at h
  exact h
end Go.Proofs.YtoleonldkifcbaaGreatDoor
