/- The law's arguments, opened; a world for the witness. No conditions. -/
import Derived.Test.YthahlimmmnmniaaGreatDoorRows
import Derived.ProofKit
import Derived.Deep.DeepHandedRow
import Derived.Lib.LaidTab
import Derived.Test.YthahlimmmnmniaaGreatDoorR23
import Derived.Test.YthahlimmmnmniaaGreatDoorR25
namespace Go.Proofs.YthahlimmmnmniaaGreatDoor
open Go.ChangeShapes Go.WideShapes Go.ChangeAt Go.RowKit Go.Fw

theorem own : ownKnob Tryz.prog.godebug = none := by kernel_rfl
theorem kids : Kids Tryz.prog (· < Tryz.prog.types.size) := kids_rows (by kernel_rfl) (by kernel_rfl)
theorem full : ∀ t e, t < Tryz.prog.types.size → Tryz.prog.underlying t = some (.slice e) → 0 < Tryz.prog.cellsOf e := slices_full_of Tryz.prog (by kernel_rfl)

section
variable {H : Type} {enc : TypeId × Value → H} {w : World} {base : Nat} {spare : Nat → Bool} {held : Bool}
theorem one_of {f : Field} {o : Nat} {cs : List Value} (h : (cs.drop o).take 1 = (cs.drop f.offset).take (Tryz.prog.cellsOf f.type)) : (cs.drop f.offset).take (Tryz.prog.cellsOf f.type) = (cs.drop o).take 1 := h.symm
set_option maxRecDepth 100000 in
theorem open_world {r : Reach} {b0 : Nat} {v : Value} {d : DataW H} {p : List MemPlace} (hv : Value.okWide Tryz.prog w r b0 28 v) (h : DataW.Trod enc Tryz.prog w base spare held 28 v d p) :
    ∃ x : WArg, v = .agg #[.int .i64 x.pct, .slice x.bk.ad x.bk.n x.bk.c, .slice x.up.ad x.up.n x.up.c, .slice x.dr.ad x.dr.n x.dr.c, .slice x.st.ad x.st.n x.st.c, .slice x.cp.ad x.cp.n x.cp.c, .slice x.fl.ad x.fl.n x.fl.c, .slice x.wh.ad x.wh.n x.wh.c] ∧ WorldIn w x := by
  obtain ⟨c0, c1, c2, c3, c4, c5, c6, c7, n, y0, y1, y2, y3, y4, y5, y6, y7, rfl, g0, g1, g2, g3, g4, g5, g6, g7⟩ := fields8 Tryz.underlying28 ⟨rfl, rfl, rfl, rfl, rfl, rfl, rfl, rfl⟩ ⟨by kernel_rfl, by kernel_rfl, by kernel_rfl, by kernel_rfl, by kernel_rfl, by kernel_rfl, by kernel_rfl, by kernel_rfl⟩ (by kernel_rfl) hv h
  obtain ⟨pct, e0, _, _⟩ := DataW.trod_int Tryz.underlying3 g0
  have etri := el_tri (enc := enc) (w := w) (base := base) (spare := spare) (held := held) Tryz.underlying56 (by kernel_rfl) rfl rfl rfl (by kernel_rfl) (by kernel_rfl) (by kernel_rfl) Tryz.underlying3 Tryz.underlying29 Tryz.underlying3
  have etrs := el_tri (enc := enc) (w := w) (base := base) (spare := spare) (held := held) Tryz.underlying62 (by kernel_rfl) rfl rfl rfl (by kernel_rfl) (by kernel_rfl) (by kernel_rfl) Tryz.underlying3 Tryz.underlying29 Tryz.underlying3
  have efl := el_five (enc := enc) (w := w) (base := base) (spare := spare) (held := held) Tryz.underlying31 (by kernel_rfl) rfl rfl rfl rfl rfl (by kernel_rfl) (by kernel_rfl) (by kernel_rfl) (by kernel_rfl) (by kernel_rfl) Tryz.underlying3 Tryz.underlying29 Tryz.underlying29 Tryz.underlying3 Tryz.underlying3
  obtain ⟨s1, e1, q1, _⟩ := sl_open (ec := eTri) (k := 3) (Q := fun _ => True) Tryz.underlying22 (by kernel_rfl) (by decide) etri g1
  obtain ⟨s2, e2, q2, _⟩ := sl_open (ec := eBool) (k := 1) (Q := fun _ => True) Tryz.underlying23 (by kernel_rfl) (by decide) (el_bool Tryz.underlying4) g2
  obtain ⟨s3, e3, q3, _⟩ := sl_open (ec := eBool) (k := 1) (Q := fun _ => True) Tryz.underlying23 (by kernel_rfl) (by decide) (el_bool Tryz.underlying4) g3
  obtain ⟨s4, e4, q4, _⟩ := sl_open (ec := eTri) (k := 3) (Q := fun _ => True) Tryz.underlying24 (by kernel_rfl) (by decide) etrs g4
  obtain ⟨s5, e5, q5, _⟩ := sl_open (ec := eInt) (k := 1) Tryz.underlying25 (by kernel_rfl) (by decide) (el_int Tryz.underlying3) g5
  obtain ⟨s6, e6, q6, _⟩ := sl_open (ec := eFlow) (k := 5) (Q := fun _ => True) Tryz.underlying26 (by kernel_rfl) (by decide) efl g6
  obtain ⟨s7, e7, q7, _⟩ := sl_open (ec := eInt) (k := 1) Tryz.underlying25 (by kernel_rfl) (by decide) (el_int Tryz.underlying3) g7
  simp only [List.cons.injEq, and_true] at e0 e1 e2 e3 e4 e5 e6 e7
  subst e0 e1 e2 e3 e4 e5 e6 e7
  exact ⟨⟨pct, s1, s2, s3, s4, s5, s6, s7⟩, rfl, q1, q2, q3, q4, q5, q6, q7⟩
set_option maxRecDepth 100000 in
theorem open_flow {r : Reach} {b0 : Nat} {v : Value} {d : DataW H} {p : List MemPlace} (hv : Value.okWide Tryz.prog w r b0 31 v) (h : DataW.Trod enc Tryz.prog w base spare held 31 v d p) :
    ∃ f : Flow, v = .agg #[.int .i64 f.proto, .int .u32 f.src, .int .u32 f.dst, .int .i64 f.sport, .int .i64 f.dport] := by
  obtain ⟨cs, rfl, hsz⟩ := okWide_struct Tryz.underlying31 hv
  obtain ⟨l⟩ := cs
  obtain ⟨fuel, hf⟩ := h
  obtain ⟨f, hf, _⟩ := el_five (enc := enc) (w := w) (base := base) (spare := spare) (held := held) Tryz.underlying31 (by kernel_rfl) rfl rfl rfl rfl rfl (by kernel_rfl) (by kernel_rfl) (by kernel_rfl) (by kernel_rfl) (by kernel_rfl) Tryz.underlying3 Tryz.underlying29 Tryz.underlying29 Tryz.underlying3 Tryz.underlying3 _ _ _ hf
  simp only [Value.cells] at hf
  subst hf
  exact ⟨f, rfl⟩
set_option maxRecDepth 100000 in
theorem open_weights {r : Reach} {b0 : Nat} {v : Value} {d : DataW H} {p : List MemPlace} (hv : Value.okWide Tryz.prog w r b0 66 v) (h : DataW.Trod enc Tryz.prog w base spare held 66 v d p) :
    ∃ s : Sl Int, v = .slice s.ad s.n s.c ∧ SlOf w eU8 1 s ∧ ∀ e ∈ s.l, 0 ≤ e ∧ e ≤ 255 := by
  obtain ⟨fuel, hf⟩ := h
  obtain ⟨a, n, c, rfl⟩ := okWide_slice Tryz.underlying66 hv
  obtain ⟨s, e, h1, h2⟩ := sl_open (ec := eU8) (k := 1) Tryz.underlying66 (by kernel_rfl) (by decide) (el_int Tryz.underlying5) hf
  simp only [Value.cells, List.cons.injEq, and_true] at e
  refine ⟨s, e, h1, fun z hz => ?_⟩
  have := h2 z hz
  simp only [Lit.wf, Bool.and_eq_true, decide_eq_true_eq] at this
  have h3 : IntKind.u8.max = 255 := by decide
  have h4 : IntKind.u8.min = 0 := by decide
  rw [h3, h4] at this
  exact this
end

def litVal : DataW Unit → Value
  | .lit (.int k n) => .int k n
  | _ => undef
def tabOf : DataW Unit → Array Value
  | .agg l => (l.map litVal).toArray
  | _ => #[]
noncomputable def layCells (vs : Array Value) : Obj → Obj
  | .cells _ t frozen => .cells vs t frozen
  | o => o
/-- A world for the witness: the settled one, the three tables holding what their initialisers lay. -/
noncomputable def laidWorld (os : Os) : World :=
  { World.holding Tryz.prog os ⟨#[], #[], []⟩ with heap := (((World.holding Tryz.prog os ⟨#[], #[], []⟩).heap.modify 0 (layCells (tabOf Rows.laid_internal_strconv_uint64pow10))).modify 1 (layCells (tabOf Rows.laid_math_bits_deBruijn32tab))).modify 2 (layCells (tabOf Rows.laid_math_bits_deBruijn64tab)) }
def zeroWorld : Value := .agg #[.int .i64 0, .slice none 0 0, .slice none 0 0, .slice none 0 0, .slice none 0 0, .slice none 0 0, .slice none 0 0, .slice none 0 0]
def zeroFlow : Value := .agg #[.int .i64 0, .int .u32 0, .int .u32 0, .int .i64 0, .int .i64 0]
end Go.Proofs.YthahlimmmnmniaaGreatDoor
