/- The rows' common part. -/
import Derived.Test.YtahiahboneljaaaGreatDoorCards
import Derived.Test.YtahiahboneljaaaGreatDoorTie
import Derived.Test.YtahiahboneljaaaGreatDoorKLa
import Derived.ProofKit
import Derived.OpenShut
import Derived.Below
import Derived.Deep.DeepHandedRow
import Derived.Lib.LaidTab
namespace Go.Proofs.YtahiahboneljaaaGreatDoor
open Go.ChangeShapes Go.WideShapes Go.ChangeAt Go.RowKit
set_option maxRecDepth 100000

theorem own : ownKnob Tryz.prog.godebug = none := by kernel_rfl
theorem laidOut : laidOutB Tryz.prog = true := by kernel_rfl
theorem cells_u8 : Tryz.prog.cellsOf 5 = 1 := by kernel_rfl

/-- A variable of one cell of type int holds some int. -/
theorem int_of_shape {P : Program} {w : World} {g : Nat} {t : TypeId} {zero : Array Value} (h : w.ShapedOpen P) (hg : g < P.globals.size)
    (h0 : ((begin P (fun _ _ => 0) default).world.heap[g]?).bind Obj.row? = some (zero, t)) (hz : zero.size = 1)
    (hb : P.buildable t = true) (hc : P.cellTypes P.depth t = some [t]) (hu : P.underlying t = some (.int .i64)) : ∃ m, w.cell? ⟨g, 0, none⟩ = some (.int .i64 m) := by
  obtain ⟨cs, hh, hs, hr⟩ := h.1 g zero t hg h0
  obtain ⟨ts, hts, _, hall⟩ := hr hb
  rw [hc] at hts
  cases hts
  have h1 : 0 < cs.size := by omega
  obtain ⟨u, hu', hok⟩ := hall 0 cs[0] (by simp [h1])
  have : u = t := by simpa using hu'.symm
  subst this
  have hcell : w.cell? ⟨g, 0, none⟩ = some cs[0] := by simp [World.cell?, hh, h1]
  rw [hcell]
  unfold Cell.ok at hok
  rw [hu] at hok
  cases hv : cs[0] <;> rw [hv] at hok <;> simp at hok
  rename_i k m
  obtain ⟨rfl, -⟩ := hok
  exact ⟨m, rfl⟩
theorem maxlen {W : World} (h : W.ShapedOpen Tryz.prog) : ∃ m, W.cell? ⟨0, 0, none⟩ = some (.int .i64 m) :=
  int_of_shape (zero := #[.int .i64 0]) (t := 3) h (of_decide_eq_true (by kernel_rfl)) (by kernel_rfl) rfl (by kernel_rfl) (by kernel_rfl) Tryz.underlying3

/-- An argument of bytes. -/
theorem code_open {H : Type} {enc : TypeId × Value → H} {W : World} {base : Nat} {v : Value} {d : DataW H} {p : List MemPlace}
    (hok : Value.okWide Tryz.prog W .any base 22 v) (h : DataW.Trod enc Tryz.prog W 0 (fun _ => true) true 22 v d p) : CodeAt W v := by
  obtain ⟨a0, len, cap, rfl⟩ := okWide_slice Tryz.underlying22 hok
  obtain ⟨fuel, hf⟩ := h
  rcases open_ints Tryz.underlying22 Tryz.underlying5 cells_u8 hf with ⟨hcs, hx⟩ | ⟨a, len', cap', zs, hcs, _, hl, hm, hz, hx, hcell, hwz⟩
  · simp [Value.cells] at hcs
    obtain ⟨rfl, rfl, rfl⟩ := hcs
    exact ⟨none, 0, 0, 0, [], rfl, Nat.le_refl _, by simp, by simp⟩
  · simp [Value.cells] at hcs
    obtain ⟨rfl, rfl, rfl⟩ := hcs
    simp only [if_true] at hz
    obtain ⟨b, off, spot⟩ := a
    have bnd : ∀ z ∈ zs, 0 ≤ z ∧ z ≤ 255 := fun z hz' => by
      have h5 := hwz z hz'
      have e1 : IntKind.u8.min = 0 := rfl
      have e2 : IntKind.u8.max = 255 := rfl
      simpa [Lit.wf, e1, e2] using h5
    have hlen : ((zs.take len).map fun z => UInt8.ofNat z.toNat).length = len := by simp; omega
    have hpl : 0 < zs.length → spot = none := fun h0 => by simpa [Addr.add] using World.cell?_spot (hcell 0 h0)
    refine ⟨some ⟨b, off, spot⟩, cap, b, off, (zs.take len).map fun z => UInt8.ofNat z.toNat, by rw [hlen], by rw [hlen]; exact hl, fun h0 => ?_, fun j hj => ?_⟩
    · rw [hlen] at h0
      have := hpl (by omega)
      subst this
      refine ⟨rfl, ?_⟩
      have := hcell 0 (by omega)
      exact lt_of_cell (a := ⟨b, off, none⟩) (by simpa [Addr.add] using this)
    · rw [hlen] at hj
      have := hpl (by omega)
      subst this
      have hj' : j < zs.length := by omega
      have hc := hcell j hj'
      rw [add_plain] at hc
      rw [hc]
      have hz := bnd zs[j] (List.getElem_mem hj')
      have hg : zs.getD j 0 = zs[j] := by simp [List.getD, List.getElem?_eq_getElem hj']
      rw [hg]
      simp only [List.getElem_map, List.getElem_take]
      congr 2
      rw [UInt8.toNat_ofNat_of_lt' (by show _ < 256; omega)]
      omega

/-- The row's last step, for a law of bytes. -/
theorem contract1 (f : FuncId) (fn : Func) (spec : ChangeSpec) (hp : fn.params = #[22]) (hr : fn.resultTypes = #[4]) (hvars : spec.vars = [])
    (hspec : ∀ (H : Type) (d : DataW H), spec.fn H [d] = { results := [.lit (.bool true)], args := [d] })
    (walk : ∀ (v : Value) (m : Int) (w : World), CodeAt w v → w.cell? ⟨0, 0, none⟩ = some (.int .i64 m) → Calls Tryz.prog f #[v] w fun e w' => e = .returned (.bool true) ∧ Kept [] w w')
    (H : Type) (enc : TypeId × Value → H) (W : World) (base : Nat) (args : Array Value) (ds gs : List (DataW H)) (before : List MemPlace)
    (hval : ∀ (j : Nat) t v, fn.params[j]? = some t → args[j]? = some v → Value.okWide Tryz.prog W .any base t v)
    (hW : DataW.Whole enc Tryz.prog fn.params.toList spec.vars false W args.toList ds gs before) (hsh : W.ShapedOpen Tryz.prog) :
    Calls Tryz.prog f args W fun e W' => ∃ v, e = .returned v ∧ spec.post enc Tryz.prog fn false true false false W args v W' := by
  have hW' := hW
  obtain ⟨p, q, hA, hV, rfl, _, _⟩ := hW
  rw [hp] at hA hval
  rw [hvars] at hV
  obtain ⟨v0, d0, hargs0, rfl, h0⟩ := trodAll_one hA
  obtain rfl : args = #[v0] := by cases args; simp_all
  obtain ⟨rfl, rfl⟩ := trodVars_none hV
  simp only [List.append_nil] at hW'
  have hlt : ∀ x ∈ p, x.block < W.heap.size := fun x hx => by simpa using hW'.lt x hx
  have hargs : ∀ (W' : World), Below W.heap.size W W' → DataW.Trod enc Tryz.prog W' 0 (fun b => decide (b < W.heap.size)) true 22 v0 d0 p :=
    fun W' hn => Below.trod laidOut (by kernel_rfl) (of_decide_eq_true (by kernel_rfl)) h0 hn hlt
  obtain ⟨m, hm⟩ := maxlen hsh
  refine (walk v0 m W (code_open (hval 0 _ v0 rfl rfl) h0) hm).mono fun e W' ⟨he, hk⟩ => ?_
  subst he
  have hn := hk.below
  refine ⟨_, rfl, [d0], [], p, [], p, [], hW', ?_, ?_, ?_, hn.frame _, fun h => by cases h⟩
  · rw [hr]
    show DataW.TrodAll _ _ _ _ _ _ _ _ (spec.fn H ([d0] ++ [])).results _
    rw [List.append_nil, hspec]
    exact trodAll_mk1 (shut_bool Tryz.underlying4 _)
  · rw [hp]
    show DataW.TrodAll _ _ _ _ _ _ _ _ (spec.fn H ([d0] ++ [])).args _
    rw [List.append_nil, hspec]
    exact trodAll_mk1 (hargs _ hn)
  · rw [hvars]
    show DataW.TrodVars _ _ _ _ _ (spec.fn H ([d0] ++ [])).vars _
    rw [List.append_nil, hspec]
    rfl
theorem contract2 (f : FuncId) (fn : Func) (spec : ChangeSpec) (hp : fn.params = #[22, 22]) (hr : fn.resultTypes = #[4]) (hvars : spec.vars = [])
    (hspec : ∀ (H : Type) (d d' : DataW H), spec.fn H [d, d'] = { results := [.lit (.bool true)], args := [d, d'] })
    (walk : ∀ (v v2 : Value) (m : Int) (w : World), CodeAt w v → CodeAt w v2 → w.cell? ⟨0, 0, none⟩ = some (.int .i64 m) → Calls Tryz.prog f #[v, v2] w fun e w' => e = .returned (.bool true) ∧ Kept [] w w')
    (H : Type) (enc : TypeId × Value → H) (W : World) (base : Nat) (args : Array Value) (ds gs : List (DataW H)) (before : List MemPlace)
    (hval : ∀ (j : Nat) t v, fn.params[j]? = some t → args[j]? = some v → Value.okWide Tryz.prog W .any base t v)
    (hW : DataW.Whole enc Tryz.prog fn.params.toList spec.vars false W args.toList ds gs before) (hsh : W.ShapedOpen Tryz.prog) :
    Calls Tryz.prog f args W fun e W' => ∃ v, e = .returned v ∧ spec.post enc Tryz.prog fn false true false false W args v W' := by
  have hW' := hW
  obtain ⟨p, q, hA, hV, rfl, _, _⟩ := hW
  rw [hp] at hA hval
  rw [hvars] at hV
  obtain ⟨v0, vs0, d0, ds0, p0, q0, hargs0, rfl, rfl, h0, r0⟩ := trodAll_cons hA
  obtain ⟨v1, vs1, d1, ds1, p1, q1, hargs1, rfl, rfl, h1, r1⟩ := trodAll_cons r0
  obtain ⟨rfl, rfl, rfl⟩ := trodAll_nil r1
  obtain rfl : args = #[v0, v1] := by cases args; simp_all
  obtain ⟨rfl, rfl⟩ := trodVars_none hV
  simp only [List.append_nil] at hW'
  have hlt : ∀ x ∈ p0 ++ p1, x.block < W.heap.size := fun x hx => by simpa using hW'.lt x hx
  have hargs : ∀ (W' : World), Below W.heap.size W W' → DataW.Trod enc Tryz.prog W' 0 (fun b => decide (b < W.heap.size)) true 22 v0 d0 p0 ∧ DataW.Trod enc Tryz.prog W' 0 (fun b => decide (b < W.heap.size)) true 22 v1 d1 p1 :=
    fun W' hn => ⟨Below.trod laidOut (by kernel_rfl) (of_decide_eq_true (by kernel_rfl)) h0 hn (fun x hx => hlt x (List.mem_append_left _ hx)), Below.trod laidOut (by kernel_rfl) (of_decide_eq_true (by kernel_rfl)) h1 hn (fun x hx => hlt x (List.mem_append_right _ hx))⟩
  obtain ⟨m, hm⟩ := maxlen hsh
  refine (walk v0 v1 m W (code_open (hval 0 _ v0 rfl rfl) h0) (code_open (hval 1 _ v1 rfl rfl) h1) hm).mono fun e W' ⟨he, hk⟩ => ?_
  subst he
  have hn := hk.below
  refine ⟨_, rfl, [d0, d1], [], p0 ++ p1, [], p0 ++ p1, [], hW', ?_, ?_, ?_, hn.frame _, fun h => by cases h⟩
  · rw [hr]
    show DataW.TrodAll _ _ _ _ _ _ _ _ (spec.fn H ([d0, d1] ++ [])).results _
    rw [List.append_nil, hspec]
    exact trodAll_mk1 (shut_bool Tryz.underlying4 _)
  · rw [hp]
    show DataW.TrodAll _ _ _ _ _ _ _ _ (spec.fn H ([d0, d1] ++ [])).args _
    rw [List.append_nil, hspec]
    have := trodAll_cons_mk (hargs _ hn).1 (trodAll_mk1 (hargs _ hn).2)
    simpa using this
  · rw [hvars]
    show DataW.TrodVars _ _ _ _ _ (spec.fn H ([d0, d1] ++ [])).vars _
    rw [List.append_nil, hspec]
    rfl

/-- What the witness lays: the two tables as the program's text lays them. -/
def layFirst : Obj → Obj
  | .cells _ t frozen => .cells (Go.Pinned.utf8FirstZ.map fun (n : Nat) => Value.int .u8 (n : Nat)).toArray t frozen
  | o => o
def layAccept : Obj → Obj
  | .cells _ t frozen => .cells #[.int .u8 128, .int .u8 191, .int .u8 160, .int .u8 191, .int .u8 128, .int .u8 159, .int .u8 144, .int .u8 191, .int .u8 128, .int .u8 143, .int .u8 0, .int .u8 0, .int .u8 0, .int .u8 0, .int .u8 0, .int .u8 0, .int .u8 0, .int .u8 0, .int .u8 0, .int .u8 0, .int .u8 0, .int .u8 0, .int .u8 0, .int .u8 0, .int .u8 0, .int .u8 0, .int .u8 0, .int .u8 0, .int .u8 0, .int .u8 0, .int .u8 0, .int .u8 0] t frozen
  | o => o
noncomputable def laidWorld (os : Os) : World :=
  { World.holding Tryz.prog os ⟨#[], #[], []⟩ with heap := ((World.holding Tryz.prog os ⟨#[], #[], []⟩).heap.modify 1 layFirst).modify 2 layAccept }
end Go.Proofs.YtahiahboneljaaaGreatDoor
