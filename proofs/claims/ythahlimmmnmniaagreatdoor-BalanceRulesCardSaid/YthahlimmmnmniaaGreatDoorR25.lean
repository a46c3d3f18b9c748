/- Arguments: slices of elements of any one size, structs. No conditions. -/
import Derived.Deep.Slices
import Derived.Deep.Fields
import Derived.Test.YthahlimmmnmniaaGreatDoorR05
import Derived.Test.YthahlimmmnmniaaGreatDoorR23
namespace Go.Fw
open Go.ChangeShapes Go.WideShapes Go.RowKit Go.Deep

theorem list_of {α : Type} {p : Nat → α → Prop} : ∀ (n : Nat), (∀ i, i < n → ∃ e, p i e) → ∃ l : List α, l.length = n ∧ ∀ i e, l[i]? = some e → p i e
  | 0, _ => ⟨[], rfl, fun i e h => by simp at h⟩
  | n + 1, h => by
    obtain ⟨l, h1, h2⟩ := list_of n (fun i hi => h i (by omega))
    obtain ⟨e, he⟩ := h n (by omega)
    refine ⟨l ++ [e], by simp [h1], fun i x hx => ?_⟩
    rcases Nat.lt_or_ge i n with hi | hi
    · rw [List.getElem?_append_left (by omega)] at hx
      exact h2 i x hx
    · rw [List.getElem?_append_right (by omega)] at hx
      have hz : i - l.length = 0 := by
        rcases Nat.eq_zero_or_pos (i - l.length) with h0 | h0
        · exact h0
        · rw [List.getElem?_eq_none (by simp; omega)] at hx; cases hx
      rw [hz] at hx
      simp at hx
      subst hx
      have : i = n := by omega
      subst this
      exact he

section
variable {H : Type} {enc : TypeId × Value → H} {P : Program} {w : World} {base : Nat} {spare : Nat → Bool} {held : Bool}
theorem sl_open {α : Type} {ec : α → List Value} {k : Nat} {Q : α → Prop} {t e : TypeId} {fuel : Nat} {cs : List Value} {x : DataW H × List MemPlace} (ht : P.underlying t = some (.slice e)) (hk : P.cellsOf e = k) (hpos : 0 < k)
    (hel : ∀ n cs' x, DataW.trod enc P w base spare held n e cs' = some x → ∃ z : α, cs' = ec z ∧ Q z) (h : DataW.trod enc P w base spare held fuel t cs = some x) :
    ∃ s : Proofs.YthahlimmmnmniaaGreatDoor.Sl α, cs = [.slice s.ad s.n s.c] ∧ Proofs.YthahlimmmnmniaaGreatDoor.SlOf w ec k s ∧ ∀ z ∈ s.l, Q z := by
  rcases open_slice ht h with ⟨h0, _⟩ | ⟨a, len, cap, m, n, D, Pl, hcs, _, hl, hm, hmm, _, hi⟩
  · exact ⟨⟨none, 0, 0, []⟩, h0, ⟨rfl, Nat.le_refl _, by simp, fun i e he => by simp at he⟩, fun z hz => by cases hz⟩
  · have hml : len ≤ m := by rw [hmm]; split <;> omega
    obtain ⟨l, h1, h2⟩ := list_of (α := α) (p := fun i z => Q z ∧ ∀ j u, (ec z)[j]? = some u → w.cell? (a.add (i * k + j)) = some u ∧ j < k) len (fun i hil => by
      obtain ⟨cs', hc, htr⟩ := hi i (by omega)
      obtain ⟨z, rfl, hq⟩ := hel _ _ _ htr
      obtain ⟨_, hcl, hat⟩ := World.cells?_some hc
      rw [hk] at hcl hat
      refine ⟨z, hq, fun j u hu => ?_⟩
      have hj : j < k := by rw [← hcl]; exact (List.getElem?_eq_some_iff.1 hu).1
      rw [← Go.Deep.add_add]
      exact ⟨(hat j hj).trans hu, hj⟩)
    refine ⟨⟨some a, len, cap, l⟩, hcs, ⟨h1, hl, by simpa [maxLen] using hm, fun i z hz => ?_⟩, fun z hz => ?_⟩
    · have hil : i < len := by rw [← h1]; exact (List.getElem?_eq_some_iff.1 hz).1
      obtain ⟨cs', hc, htr⟩ := hi 0 (by omega)
      obtain ⟨_, hcl, hat⟩ := World.cells?_some hc
      rw [hk] at hcl hat
      have h00 := hat 0 hpos
      rw [List.getElem?_eq_getElem (by omega), Go.Deep.add_add, Nat.zero_mul, Nat.add_zero] at h00
      obtain ⟨b, off, spot⟩ := a
      have hspot : spot = none := by
        have := World.cell?_spot h00
        simpa [Addr.add] using this
      subst hspot
      have hlt := World.block_lt_of_cell? _ _ h00
      have hadd : ∀ q, (⟨b, off, none⟩ : Addr).add q = ⟨b, off + q, none⟩ := fun q => by
        unfold Addr.add
        split
        · subst q; rfl
        · simp
      rw [hadd] at hlt
      refine ⟨b, off, rfl, by simpa using hlt, fun j u hu => ?_⟩
      have := (h2 i z hz).2 j u hu
      rw [hadd] at this
      rw [Nat.add_assoc]
      exact this.1
    · obtain ⟨i, hiz⟩ := List.mem_iff_getElem?.1 hz
      exact (h2 i z hiz).1
theorem el_tri {e : TypeId} {f0 f1 f2 : Field} (hs : P.underlying e = some (.struct #[f0, f1, f2])) (hc : P.cellsOf e = 3) (o0 : f0.offset = 0) (o1 : f1.offset = 1) (o2 : f2.offset = 2)
    (c0 : P.cellsOf f0.type = 1) (c1 : P.cellsOf f1.type = 1) (c2 : P.cellsOf f2.type = 1) (t0 : P.underlying f0.type = some (.int .i64)) (t1 : P.underlying f1.type = some (.int .u32)) (t2 : P.underlying f2.type = some (.int .i64))
    (n : Nat) (cs : List Value) (x : DataW H × List MemPlace) (h : DataW.trod enc P w base spare held n e cs = some x) : ∃ z : Int × Int × Int, cs = [.int .i64 z.1, .int .u32 z.2.1, .int .i64 z.2.2] ∧ True := by
  obtain ⟨xs, n', _, _, hl, hx, hg⟩ := DataW.trod_struct hs h
  rw [hc] at hl
  match cs, hl with
  | [v0, v1, v2], _ =>
    match xs, hx with
    | [y0, y1, y2], _ =>
      have g0 := hg 0 f0 rfl
      have g1 := hg 1 f1 rfl
      have g2 := hg 2 f2 rfl
      rw [o0, c0] at g0
      rw [o1, c1] at g1
      rw [o2, c2] at g2
      obtain ⟨z0, e0, _, _⟩ := DataW.trod_int t0 g0
      obtain ⟨z1, e1, _, _⟩ := DataW.trod_int t1 g1
      obtain ⟨z2, e2, _, _⟩ := DataW.trod_int t2 g2
      simp at e0 e1 e2
      exact ⟨(z0, z1, z2), by rw [e0, e1, e2], trivial⟩
theorem el_five {e : TypeId} {f0 f1 f2 f3 f4 : Field} (hs : P.underlying e = some (.struct #[f0, f1, f2, f3, f4])) (hc : P.cellsOf e = 5) (o0 : f0.offset = 0) (o1 : f1.offset = 1) (o2 : f2.offset = 2) (o3 : f3.offset = 3) (o4 : f4.offset = 4)
    (c0 : P.cellsOf f0.type = 1) (c1 : P.cellsOf f1.type = 1) (c2 : P.cellsOf f2.type = 1) (c3 : P.cellsOf f3.type = 1) (c4 : P.cellsOf f4.type = 1)
    (t0 : P.underlying f0.type = some (.int .i64)) (t1 : P.underlying f1.type = some (.int .u32)) (t2 : P.underlying f2.type = some (.int .u32)) (t3 : P.underlying f3.type = some (.int .i64)) (t4 : P.underlying f4.type = some (.int .i64))
    (n : Nat) (cs : List Value) (x : DataW H × List MemPlace) (h : DataW.trod enc P w base spare held n e cs = some x) : ∃ z : Proofs.YthahlimmmnmniaaGreatDoor.Flow, cs = Proofs.YthahlimmmnmniaaGreatDoor.eFlow z ∧ True := by
  obtain ⟨xs, n', _, _, hl, hx, hg⟩ := DataW.trod_struct hs h
  rw [hc] at hl
  match cs, hl with
  | [v0, v1, v2, v3, v4], _ =>
    match xs, hx with
    | [y0, y1, y2, y3, y4], _ =>
      have g0 := hg 0 f0 rfl
      have g1 := hg 1 f1 rfl
      have g2 := hg 2 f2 rfl
      have g3 := hg 3 f3 rfl
      have g4 := hg 4 f4 rfl
      rw [o0, c0] at g0
      rw [o1, c1] at g1
      rw [o2, c2] at g2
      rw [o3, c3] at g3
      rw [o4, c4] at g4
      obtain ⟨z0, e0, _, _⟩ := DataW.trod_int t0 g0
      obtain ⟨z1, e1, _, _⟩ := DataW.trod_int t1 g1
      obtain ⟨z2, e2, _, _⟩ := DataW.trod_int t2 g2
      obtain ⟨z3, e3, _, _⟩ := DataW.trod_int t3 g3
      obtain ⟨z4, e4, _, _⟩ := DataW.trod_int t4 g4
      simp at e0 e1 e2 e3 e4
      exact ⟨⟨z0, z1, z2, z3, z4⟩, by rw [e0, e1, e2, e3, e4]; rfl, trivial⟩
theorem fields8 {t : TypeId} {f0 f1 f2 f3 f4 f5 f6 f7 : Field} (hs : P.underlying t = some (.struct #[f0, f1, f2, f3, f4, f5, f6, f7])) (ho : f0.offset = 0 ∧ f1.offset = 1 ∧ f2.offset = 2 ∧ f3.offset = 3 ∧ f4.offset = 4 ∧ f5.offset = 5 ∧ f6.offset = 6 ∧ f7.offset = 7) (hc : P.cellsOf f0.type = 1 ∧ P.cellsOf f1.type = 1 ∧ P.cellsOf f2.type = 1 ∧ P.cellsOf f3.type = 1 ∧ P.cellsOf f4.type = 1 ∧ P.cellsOf f5.type = 1 ∧ P.cellsOf f6.type = 1 ∧ P.cellsOf f7.type = 1) (h8 : P.cellsOf t = 8)
    {r : Reach} {b0 : Nat} {v : Value} {d : DataW H} {p : List MemPlace} (hv : Value.okWide P w r b0 t v) (h : DataW.Trod enc P w base spare held t v d p) :
    ∃ c0 c1 c2 c3 c4 c5 c6 c7 n, ∃ y0 y1 y2 y3 y4 y5 y6 y7 : DataW H × List MemPlace, v = .agg #[c0, c1, c2, c3, c4, c5, c6, c7] ∧ DataW.trod enc P w base spare held n f0.type [c0] = some y0 ∧ DataW.trod enc P w base spare held n f1.type [c1] = some y1 ∧ DataW.trod enc P w base spare held n f2.type [c2] = some y2 ∧ DataW.trod enc P w base spare held n f3.type [c3] = some y3 ∧ DataW.trod enc P w base spare held n f4.type [c4] = some y4 ∧ DataW.trod enc P w base spare held n f5.type [c5] = some y5 ∧ DataW.trod enc P w base spare held n f6.type [c6] = some y6 ∧ DataW.trod enc P w base spare held n f7.type [c7] = some y7 := by
  obtain ⟨cs, rfl, hsz⟩ := okWide_struct hs hv
  obtain ⟨l⟩ := cs
  match l, hsz.trans h8 with
  | [c0, c1, c2, c3, c4, c5, c6, c7], _ =>
    obtain ⟨fuel, hf⟩ := h
    obtain ⟨xs, n, _, _, _, hlen, hg⟩ := DataW.trod_struct hs hf
    match xs, hlen with
    | [y0, y1, y2, y3, y4, y5, y6, y7], _ =>
      obtain ⟨o0, o1, o2, o3, o4, o5, o6, o7⟩ := ho
      obtain ⟨k0, k1, k2, k3, k4, k5, k6, k7⟩ := hc
      have g0 := hg 0 f0 rfl
      rw [o0, k0] at g0
      have g1 := hg 1 f1 rfl
      rw [o1, k1] at g1
      have g2 := hg 2 f2 rfl
      rw [o2, k2] at g2
      have g3 := hg 3 f3 rfl
      rw [o3, k3] at g3
      have g4 := hg 4 f4 rfl
      rw [o4, k4] at g4
      have g5 := hg 5 f5 rfl
      rw [o5, k5] at g5
      have g6 := hg 6 f6 rfl
      rw [o6, k6] at g6
      have g7 := hg 7 f7 rfl
      rw [o7, k7] at g7
      exact ⟨c0, c1, c2, c3, c4, c5, c6, c7, n, y0, y1, y2, y3, y4, y5, y6, y7, rfl, g0, g1, g2, g3, g4, g5, g6, g7⟩
theorem el_int {e : TypeId} {q : IntKind} (ht : P.underlying e = some (.int q)) (n : Nat) (cs : List Value) (x : DataW H × List MemPlace) (h : DataW.trod enc P w base spare held n e cs = some x) : ∃ z : Int, cs = [.int q z] ∧ (Lit.int q z).wf = true := by
  obtain ⟨z, h1, _, h2⟩ := DataW.trod_int ht h
  exact ⟨z, h1, h2⟩
theorem el_bool {e : TypeId} (ht : P.underlying e = some .bool) (n : Nat) (cs : List Value) (x : DataW H × List MemPlace) (h : DataW.trod enc P w base spare held n e cs = some x) : ∃ z : Bool, cs = [.bool z] ∧ True := by
  obtain ⟨z, h1, _⟩ := DataW.trod_bool ht h
  exact ⟨z, h1, trivial⟩
end
end Go.Fw
