/- The rows of fairwayref26: Report: it returns, and touches its own blocks alone. -/
import Derived.Test.YthahlimmmnmniaaGreatDoorR13
import Derived.Test.YthahlimmmnmniaaGreatDoorR14
namespace Go.Fw
open Go.RowKit
theorem set_same {xs : List Value} {p : Nat} {v : Value} (h : xs[p]? = some v) : xs.set p v = xs := by
  apply List.ext_getElem?
  intro t
  rw [List.getElem?_set]
  split
  · rename_i e
    subst e
    split
    · exact h.symm
    · rename_i h2
      rw [List.getElem?_eq_none (by omega)] at h
      cases h
  · rfl
/-- Two cells of an own row's element turned. -/
theorem own_set2 {w : World} {base e g n cap : Nat} {α : Type} {enc : α → List Value} (hk : ∀ x, (enc x).length = 5) {l : List α} (h : w.ownsRow base e 5 (.slice (some ⟨g, 0, none⟩) n cap) n (l.flatMap enc)) (hn : l.length = n) (i : Nat) (hi : i < n) (x0 x : α) (h0 : l[i]? = some x0) {v0 v1 v2 u3 u4 v3 v4 : Value} (hx0 : enc x0 = [v0, v1, v2, u3, u4]) (hx : enc x = [v0, v1, v2, v3, v4]) :
    ((w.setCell ⟨g, i * 5 + 3, none⟩ v3).setCell ⟨g, i * 5 + 4, none⟩ v4).ownsRow base e 5 (.slice (some ⟨g, 0, none⟩) n cap) n ((l.set i x).flatMap enc) := by
  have h5 := ((h.stored (i * 5 + 3) v3).1.stored (i * 5 + 4) v4).1
  have c0 := flat_at hk (t := 0) (u := v0) h0 (by rw [hx0]; rfl)
  have c1 := flat_at hk (t := 1) (u := v1) h0 (by rw [hx0]; rfl)
  have c2 := flat_at hk (t := 2) (u := v2) h0 (by rw [hx0]; rfl)
  have e5 := set5 (l.flatMap enc) (i * 5) (by rw [h.1]; omega) v0 v1 v2 v3 v4
  rw [show i * 5 = i * 5 + 0 by rfl, set_same c0, set_same c1, set_same c2] at e5
  simp only [Nat.add_zero] at e5
  rw [e5] at h5
  rw [flat_set hk l i x (by omega), hx, show (i + 1) * 5 = i * 5 + 5 by omega]
  exact h5
end Go.Fw
namespace Go.Proofs.YthahlimmmnmniaaGreatDoor
open Go.RowKit Go.Fw

theorem v_row {w : World} {q cp : Nat} {ad : Option Addr} {l : List VRow} (h : VAt w q (.slice ad l.length cp) l) {i : Nat} (hi : i < l.length) :
    ∃ g, ad = some ⟨g, 0, none⟩ ∧ q + 1 ≤ g ∧ g < w.heap.size ∧ l.length ≤ cp := by
  obtain ⟨ad', cp', h0, hnc, h2⟩ := own_form h.row
  cases h0
  obtain ⟨g, h3, h4, h5, h6⟩ := h2 (by omega)
  exact ⟨g, h3, h4, h5, by omega⟩

set_option maxRecDepth 100000 in
set_option maxHeartbeats 4000000 in
theorem vreport_any {w : World} {q : Nat} {v : Value} {l : List VRow} (h : VAt w q v l) (id cap til : Int) :
    Calls Tryz.prog 34 #[.pointer (some ⟨q, 0, none⟩), .int .i64 id, .int .i64 cap, .int .i64 til] w (VPost w q v) := by
  obtain ⟨i0, hii, hz0, hz1, hz2⟩ := info_parts info_vrow
  have HI := Lib.hid (And.intro hii (And.intro hz0 (And.intro hz1 hz2)))
  clear hii hz0 hz1 hz2
  have hfind := vfind_any h id
  have hql := h.lt q (by simp [vown])
  have H := Lib.hid (And.intro h hfind)
  clear h hfind
  go_enter Tryz.func34, Tryz.ntmps34
  go_wp2_with fail
  refine (H.out.2).mono ?_
  rintro en w1 ⟨r, rfl, hr0, hr1, hF1⟩
  have hQ1 := H.out.1.fr hF1 (by simp)
  by_cases hr : r < 0
  · have HX := Lib.hid hF1
    clear hF1 hQ1
    go_wp2
    go_returns
    exact ⟨⟨_, rfl⟩, v, l, H.out.1.fr HX.out (by simp), fun k hk => .inl hk, HX.out.mono (by simp)⟩
  · obtain ⟨i, rfl⟩ := Int.eq_ofNat_of_zero_le (by omega : 0 ≤ r)
    obtain ⟨n, hn⟩ : ∃ n, l.length = n := ⟨_, rfl⟩
    obtain ⟨a, _, ht1⟩ := hQ1.tab
    have hlen := hQ1.len
    obtain ⟨ad, cp, rfl, hnc⟩ := own_form' hQ1.row
    obtain ⟨g, rfl, hgb, hgl, hcp⟩ := v_row (i := i) hQ1 (by omega)
    rw [hn] at hcp hr1 hlen ht1
    have t1 := cell_at ht1 0 (v := .slice (some ⟨g, 0, none⟩) n cp) rfl
    have f1 := free_at ht1 0
    have lq1 := lt_of ht1
    have j0 : (0 : Int) ≤ i := by omega
    have j1 : (i : Int) < n := by omega
    have hin : i < n := by omega
    have hrow := hQ1.row
    have hcells : ∀ (t : Nat) (x : Value), (l.flatMap vcells)[t]? = some x → w1.cell? ⟨g, t, none⟩ = some x := fun t x hx => own_cell hrow hx
    have hlf : (l.flatMap vcells).length = n * 5 := by rw [← hn]; exact hrow.1
    have X := Lib.hid (And.intro hF1 (And.intro hQ1 (And.intro hn (And.intro ht1 (And.intro hcells (And.intro hlf (vcells_one l)))))))
    clear hF1 hQ1 hn hnc ht1 hgb hrow hcells hlf
    by_cases a1 : cap < 0
    · go_wp2
      go_returns
      exact ⟨⟨_, rfl⟩, _, l, X.out.2.1, fun k hk => .inl hk, X.out.1.mono (by simp)⟩
    by_cases a2 : 1000000 < cap
    · go_wp2
      go_returns
      exact ⟨⟨_, rfl⟩, _, l, X.out.2.1, fun k hk => .inl hk, X.out.1.mono (by simp)⟩
    by_cases a3 : til < 0
    · go_wp2
      go_returns
      exact ⟨⟨_, rfl⟩, _, l, X.out.2.1, fun k hk => .inl hk, X.out.1.mono (by simp)⟩
    by_cases a4 : 1099511627776 < til
    · go_wp2
      go_returns
      exact ⟨⟨_, rfl⟩, _, l, X.out.2.1, fun k hk => .inl hk, X.out.1.mono (by simp)⟩
    go_wp2_with (at_builtin; refine wpList_append_own _ rfl _ _ 78 rfl w1.heap.size 140 i0 (.agg #[.int .i64 0, .int .u32 0, .int .i64 0, .int .i64 0, .int .i64 0]) 5 40 Tryz.underlying78 HI.out.1 HI.out.2.1 HI.out.2.2.1 HI.out.2.2.2 rfl (by decide) _ _ _ rfl (own_made w1 140 5) ⟨g, 0, none⟩ n cp (l.flatMap vcells) rfl X.out.2.2.2.2.2.1 ?c1 ?c2 ?c3 ?c4 ?c5 ?_)
    case c1 =>
      intro t x hx
      rw [add_off]
      exact ((Fr.refl [] w1).alloc _).cell (a := ⟨g, t, none⟩) hgl (by simp) |>.trans (X.out.2.2.2.2.1 t x hx)
    case c2 => exact X.out.2.2.2.2.2.2
    case c3 => unfold maxLen; omega
    case c4 => omega
    case c5 => simp
    intro v4 w4 hown4 hg4 _
    (try simp only [Nat.zero_add, List.nil_append] at hown4)
    have hF4 : Fr [] w1 w4 := Fr.grown (S := []) (a := w1) (by (repeat (first | (with_reducible exact Fr.refl _ _) | (with_reducible assumption) | (with_reducible refine Fr.drew ?_) | (with_reducible refine Fr.drewN ?_ _) | (with_reducible refine Fr.alloc ?_ _) | (with_reducible refine Fr.mput ?_ _ _ _ (.inl (by simp))) | (with_reducible refine Fr.mdel ?_ _ _ (.inl (by simp))) | (with_reducible refine Fr.set ?_ _ _ (.inr (by first | omega | (dsimp only; omega)))) | (with_reducible refine Fr.set ?_ _ _ (.inl (by simp)))))) hg4 (fun k hk => .inr (by simp [Value.ownBlock] at hk; omega))
    obtain ⟨ad4, cp4, rfl, hnc4⟩ := own_form' hown4
    have t4 := (hF4.cell (a := ⟨q, 0, none⟩) lq1 (by simp)).trans t1
    have f4 := (hF4.free (a := ⟨q, 0, none⟩) lq1 (by simp)).trans f1
    have lq4 : q < w4.heap.size := Nat.lt_of_lt_of_le lq1 hF4.size
    have Y := Lib.hid (And.intro hown4 hF4)
    clear hown4 hg4 hF4
    go_wp2
    obtain ⟨hown4, hF4⟩ := Y.out
    obtain ⟨w5, hw5⟩ : ∃ w5, w5 = w4.setCell ⟨q, 0, none⟩ (.slice ad4 n cp4) := ⟨_, rfl⟩
    rw [← hw5]
    have hF45 : Fr [q] w4 w5 := by rw [hw5]; exact (Fr.refl _ _).set _ _ (.inl (by simp))
    have hb4 := (hF4.keep X.out.2.2.2.1 (by simp))
    have ht5 : w5.heap[q]? = some (.cells #[.slice ad4 n cp4] 80 (0, 0)) := by rw [hw5, heap_set hb4]; rfl
    have hown5 := own_fr hown4 hF45 (by simp; omega)
    have hF15 : Fr [q] w1 w5 := hF4.mono (by simp) |>.trans hF45 (by simp)
    have t5 := cell_at ht5 0 (v := .slice ad4 n cp4) rfl
    have lq5 := lt_of ht5
    have hn := X.out.2.2.1
    obtain ⟨e, he⟩ : ∃ e, l[i]? = some e := ⟨l[i], List.getElem?_eq_getElem (by omega)⟩
    rcases hown5.2 with ⟨_, h0⟩ | ⟨g4, cap, cur, h0, hgb, hgc, hcap, _⟩
    · omega
    cases h0
    have cc := fun (t : Nat) (u : Value) (hu : (vcells e)[t]? = some u) => own_cell hown5 (flat_at (k := 5) (enc := vcells) (fun _ => rfl) he hu)
    have k0 : w5.cell? ⟨g4, i * 5, none⟩ = some (.int .i64 e.id) := cc 0 _ rfl
    have k1 : w5.cell? ⟨g4, i * 5 + 1, none⟩ = some (.int .u32 e.addr) := cc 1 _ rfl
    have k2 : w5.cell? ⟨g4, i * 5 + 2, none⟩ = some (.int .i64 e.c) := cc 2 _ rfl
    have k3 : w5.cell? ⟨g4, i * 5 + 3, none⟩ = some (.int .i64 e.d) := cc 3 _ rfl
    have k4 : w5.cell? ⟨g4, i * 5 + 4, none⟩ = some (.int .i64 e.e) := cc 4 _ rfl
    have z0 := free_at hgc (i * 5)
    have z1 := free_at hgc (i * 5 + 1)
    have z2 := free_at hgc (i * 5 + 2)
    have z3 := free_at hgc (i * 5 + 3)
    have z4 := free_at hgc (i * 5 + 4)
    have lg5 := lt_of hgc
    have hcap' : n ≤ cp4 := hcap
    have Z := Lib.hid (And.intro hown5 (And.intro hF15 (And.intro ht5 (And.intro hgb he))))
    have ngb : w1.heap.size ≤ g4 := hgb
    clear hown4 hF4 hF45 hb4 ht5 hown5 hF15 hn he hgc cc hw5 t1 f1 t4 f4 hgb hcap
    have nqg : ¬ (q = g4) := by omega
    have ngq : ¬ (g4 = q) := by omega
    refine wp_region_zed (P := Tryz.prog) (fun wz => wz.cell? ⟨q, 0, none⟩ = some (.slice (some ⟨g4, 0, none⟩) n cp4)) 17 (by kernel_rfl) ?_ (fun hS => ?_)
    · exact t5
    refine wpAnyZ_take (i := 0) (oi := { dst := some 40, op := Go.Op.move (Go.Operand.tmp 0), type := 41, pos := "ref.go:81", after := #[], guard := none }) (v := _) rfl (by kernel_rfl) (by kernel_rfl) (by kernel_rfl) (by kernel_rfl) (by kernel_rfl) (fun _ _ _ h => h) (Or.inl ⟨by rfl, by (intro w' hSw; (try dsimp only at hSw); go_simp); (try (with_reducible rfl))⟩) (by assumption) ?_
    simp only [Act.put, List.setIfInBounds_toArray, List.set_cons_zero, List.set_cons_succ]
    refine wpAnyZ_take (i := 1) (oi := { dst := some 41, op := Go.Op.nilCheck (Go.Operand.tmp 40), type := 0, pos := "ref.go:81", after := #[{ on := 0, ground := Go.Ground.data }], guard := none }) (v := _) rfl (by kernel_rfl) (by kernel_rfl) (by kernel_rfl) (by kernel_rfl) (by kernel_rfl) (fun _ _ _ h => h) (Or.inl ⟨by rfl, by (intro w' hSw; (try dsimp only at hSw); go_simp); (try (with_reducible rfl))⟩) (by assumption) ?_
    simp only [Act.put, List.setIfInBounds_toArray, List.set_cons_zero, List.set_cons_succ]
    refine wpAnyZ_take (i := 2) (oi := { dst := some 42, op := Go.Op.fieldAddr 80 (Go.Operand.tmp 41) 0, type := 0, pos := "ref.go:81", after := #[{ on := 1, ground := Go.Ground.data }], guard := none }) (v := _) rfl (by kernel_rfl) (by kernel_rfl) (by kernel_rfl) (by kernel_rfl) (by kernel_rfl) (fun _ _ _ h => h) (Or.inl ⟨by rfl, by (intro w' hSw; (try dsimp only at hSw); go_simp); (try (with_reducible rfl))⟩) (by assumption) ?_
    simp only [Act.put, List.setIfInBounds_toArray, List.set_cons_zero, List.set_cons_succ]
    refine wpAnyZ_take (i := 3) (oi := { dst := some 43, op := Go.Op.load 78 (Go.Operand.tmp 42), type := 78, pos := "ref.go:81", after := #[{ on := 2, ground := Go.Ground.data }], guard := none }) (v := _) rfl (by kernel_rfl) (by kernel_rfl) (by kernel_rfl) (by kernel_rfl) (by kernel_rfl) (fun _ _ _ h => h) (Or.inl ⟨by rfl, by (intro w' hSw; (try dsimp only at hSw); go_simp); (try (with_reducible rfl))⟩) (by assumption) ?_
    simp only [Act.put, List.setIfInBounds_toArray, List.set_cons_zero, List.set_cons_succ]
    refine wpAnyZ_take (i := 4) (oi := { dst := some 44, op := Go.Op.move (Go.Operand.tmp 9), type := 3, pos := "ref.go:81", after := #[], guard := none }) (v := _) rfl (by kernel_rfl) (by kernel_rfl) (by kernel_rfl) (by kernel_rfl) (by kernel_rfl) (fun _ _ _ h => h) (Or.inl ⟨by rfl, by (intro w' hSw; (try dsimp only at hSw); go_simp); (try (with_reducible rfl))⟩) (by assumption) ?_
    simp only [Act.put, List.setIfInBounds_toArray, List.set_cons_zero, List.set_cons_succ]
    refine wpAnyZ_take (i := 5) (oi := { dst := some 45, op := Go.Op.move (Go.Operand.tmp 0), type := 41, pos := "ref.go:81", after := #[], guard := none }) (v := _) rfl (by kernel_rfl) (by kernel_rfl) (by kernel_rfl) (by kernel_rfl) (by kernel_rfl) (fun _ _ _ h => h) (Or.inl ⟨by rfl, by (intro w' hSw; (try dsimp only at hSw); go_simp); (try (with_reducible rfl))⟩) (by assumption) ?_
    simp only [Act.put, List.setIfInBounds_toArray, List.set_cons_zero, List.set_cons_succ]
    refine wpAnyZ_take (i := 6) (oi := { dst := some 46, op := Go.Op.nilCheck (Go.Operand.tmp 45), type := 0, pos := "ref.go:81", after := #[{ on := 5, ground := Go.Ground.data }], guard := none }) (v := _) rfl (by kernel_rfl) (by kernel_rfl) (by kernel_rfl) (by kernel_rfl) (by kernel_rfl) (fun _ _ _ h => h) (Or.inl ⟨by rfl, by (intro w' hSw; (try dsimp only at hSw); go_simp); (try (with_reducible rfl))⟩) (by assumption) ?_
    simp only [Act.put, List.setIfInBounds_toArray, List.set_cons_zero, List.set_cons_succ]
    refine wpAnyZ_take (i := 7) (oi := { dst := some 47, op := Go.Op.fieldAddr 80 (Go.Operand.tmp 46) 0, type := 0, pos := "ref.go:81", after := #[{ on := 6, ground := Go.Ground.data }], guard := none }) (v := _) rfl (by kernel_rfl) (by kernel_rfl) (by kernel_rfl) (by kernel_rfl) (by kernel_rfl) (fun _ _ _ h => h) (Or.inl ⟨by rfl, by (intro w' hSw; (try dsimp only at hSw); go_simp); (try (with_reducible rfl))⟩) (by assumption) ?_
    simp only [Act.put, List.setIfInBounds_toArray, List.set_cons_zero, List.set_cons_succ]
    refine wpAnyZ_take (i := 8) (oi := { dst := some 48, op := Go.Op.load 78 (Go.Operand.tmp 47), type := 78, pos := "ref.go:81", after := #[{ on := 7, ground := Go.Ground.data }], guard := none }) (v := _) rfl (by kernel_rfl) (by kernel_rfl) (by kernel_rfl) (by kernel_rfl) (by kernel_rfl) (fun _ _ _ h => h) (Or.inl ⟨by rfl, by (intro w' hSw; (try dsimp only at hSw); go_simp); (try (with_reducible rfl))⟩) (by assumption) ?_
    simp only [Act.put, List.setIfInBounds_toArray, List.set_cons_zero, List.set_cons_succ]
    refine wpAnyZ_take (i := 9) (oi := { dst := some 49, op := Go.Op.move (Go.Operand.tmp 9), type := 3, pos := "ref.go:81", after := #[{ on := 14, ground := Go.Ground.gcOnly Go.Departure.lateStores }], guard := none }) (v := _) rfl (by kernel_rfl) (by kernel_rfl) (by kernel_rfl) (by kernel_rfl) (by kernel_rfl) (fun _ _ _ h => h) (Or.inl ⟨by rfl, by (intro w' hSw; (try dsimp only at hSw); go_simp); (try (with_reducible rfl))⟩) (by assumption) ?_
    simp only [Act.put, List.setIfInBounds_toArray, List.set_cons_zero, List.set_cons_succ]
    refine wpAnyZ_take (i := 10) (oi := { dst := some 50, op := Go.Op.move (Go.Operand.tmp 2), type := 3, pos := "ref.go:81", after := #[], guard := none }) (v := _) rfl (by kernel_rfl) (by kernel_rfl) (by kernel_rfl) (by kernel_rfl) (by kernel_rfl) (fun _ _ _ h => h) (Or.inl ⟨by rfl, by (intro w' hSw; (try dsimp only at hSw); go_simp); (try (with_reducible rfl))⟩) (by assumption) ?_
    simp only [Act.put, List.setIfInBounds_toArray, List.set_cons_zero, List.set_cons_succ]
    refine wpAnyZ_take (i := 11) (oi := { dst := some 51, op := Go.Op.move (Go.Operand.tmp 3), type := 3, pos := "ref.go:81", after := #[{ on := 14, ground := Go.Ground.gcOnly Go.Departure.lateStores }], guard := none }) (v := _) rfl (by kernel_rfl) (by kernel_rfl) (by kernel_rfl) (by kernel_rfl) (by kernel_rfl) (fun _ _ _ h => h) (Or.inl ⟨by rfl, by (intro w' hSw; (try dsimp only at hSw); go_simp); (try (with_reducible rfl))⟩) (by assumption) ?_
    simp only [Act.put, List.setIfInBounds_toArray, List.set_cons_zero, List.set_cons_succ]
    refine wpAnyZ_take (i := 12) (oi := { dst := some 52, op := Go.Op.indexAddr 78 (Go.Operand.tmp 43) (Go.Operand.tmp 44), type := 0, pos := "ref.go:81", after := #[{ on := 3, ground := Go.Ground.data }, { on := 4, ground := Go.Ground.data }, { on := 0, ground := Go.Ground.phase }, { on := 1, ground := Go.Ground.phase }, { on := 2, ground := Go.Ground.phase }, { on := 3, ground := Go.Ground.phase }, { on := 4, ground := Go.Ground.phase }, { on := 5, ground := Go.Ground.textOnly Go.Departure.lateStores }, { on := 6, ground := Go.Ground.textOnly Go.Departure.lateStoresUnsure }, { on := 7, ground := Go.Ground.textOnly Go.Departure.lateStoresUnsure }, { on := 8, ground := Go.Ground.phase }, { on := 9, ground := Go.Ground.textOnly Go.Departure.lateStores }, { on := 10, ground := Go.Ground.phase }, { on := 11, ground := Go.Ground.textOnly Go.Departure.lateStores }], guard := none }) (v := _) rfl (by kernel_rfl) (by kernel_rfl) (by kernel_rfl) (by kernel_rfl) (by kernel_rfl) (fun _ _ _ h => h) (Or.inl ⟨by rfl, by (intro w' hSw; (try dsimp only at hSw); go_simp); (try (with_reducible rfl))⟩) (by assumption) ?_
    simp only [Act.put, List.setIfInBounds_toArray, List.set_cons_zero, List.set_cons_succ]
    refine wpAnyZ_take (i := 13) (oi := { dst := some 53, op := Go.Op.fieldAddr 140 (Go.Operand.tmp 52) 1, type := 0, pos := "ref.go:81", after := #[{ on := 12, ground := Go.Ground.data }, { on := 0, ground := Go.Ground.phase }, { on := 1, ground := Go.Ground.phase }, { on := 2, ground := Go.Ground.phase }, { on := 3, ground := Go.Ground.phase }, { on := 4, ground := Go.Ground.phase }, { on := 5, ground := Go.Ground.textOnly Go.Departure.lateStores }, { on := 6, ground := Go.Ground.textOnly Go.Departure.lateStoresUnsure }, { on := 7, ground := Go.Ground.textOnly Go.Departure.lateStoresUnsure }, { on := 8, ground := Go.Ground.phase }, { on := 9, ground := Go.Ground.textOnly Go.Departure.lateStores }, { on := 10, ground := Go.Ground.phase }, { on := 11, ground := Go.Ground.textOnly Go.Departure.lateStores }], guard := none }) (v := _) rfl (by kernel_rfl) (by kernel_rfl) (by kernel_rfl) (by kernel_rfl) (by kernel_rfl) (fun _ _ _ h => h) (Or.inl ⟨by rfl, by (intro w' hSw; (try dsimp only at hSw); go_simp); (try (with_reducible rfl))⟩) (by assumption) ?_
    simp only [Act.put, List.setIfInBounds_toArray, List.set_cons_zero, List.set_cons_succ]
    refine wpAnyZ_ready (rs := [14]) (by kernel_rfl) (by simp) ?_
    refine ZedOne.cons (o := { dst := none, op := Go.Op.store 3 (Go.Operand.tmp 53) (Go.Operand.tmp 50), type := 0, pos := "ref.go:81", after := #[{ on := 13, ground := Go.Ground.data }, { on := 10, ground := Go.Ground.data }, { on := 0, ground := Go.Ground.phase }, { on := 1, ground := Go.Ground.phase }, { on := 2, ground := Go.Ground.phase }, { on := 3, ground := Go.Ground.phase }, { on := 4, ground := Go.Ground.phase }, { on := 5, ground := Go.Ground.textOnly Go.Departure.lateStores }, { on := 6, ground := Go.Ground.textOnly Go.Departure.lateStoresUnsure }, { on := 7, ground := Go.Ground.textOnly Go.Departure.lateStoresUnsure }, { on := 8, ground := Go.Ground.phase }, { on := 9, ground := Go.Ground.textOnly Go.Departure.lateStores }, { on := 10, ground := Go.Ground.phase }, { on := 11, ground := Go.Ground.textOnly Go.Departure.lateStores }], guard := none }) rfl (fun K hK => ?_) ?_
    go_simp
    refine hK.out _ _ ?_ (fun hSn => ?_)
    · go_simp
    clear hK K hS
    have hS := hSn
    clear hSn
    (try simp only [Act.put, List.setIfInBounds_toArray, List.set_cons_zero, List.set_cons_succ])
    refine wpAnyZ_take (i := 15) (oi := { dst := some 54, op := Go.Op.indexAddr 78 (Go.Operand.tmp 48) (Go.Operand.tmp 49), type := 0, pos := "ref.go:81", after := #[{ on := 8, ground := Go.Ground.data }, { on := 9, ground := Go.Ground.data }, { on := 0, ground := Go.Ground.phase }, { on := 1, ground := Go.Ground.phase }, { on := 2, ground := Go.Ground.phase }, { on := 3, ground := Go.Ground.phase }, { on := 4, ground := Go.Ground.phase }, { on := 5, ground := Go.Ground.phase }, { on := 6, ground := Go.Ground.phase }, { on := 7, ground := Go.Ground.phase }, { on := 8, ground := Go.Ground.phase }, { on := 9, ground := Go.Ground.phase }, { on := 10, ground := Go.Ground.phase }, { on := 11, ground := Go.Ground.phase }, { on := 12, ground := Go.Ground.phase }, { on := 13, ground := Go.Ground.phase }, { on := 14, ground := Go.Ground.phase }], guard := none }) (v := _) rfl (by kernel_rfl) (by kernel_rfl) (by kernel_rfl) (by kernel_rfl) (by kernel_rfl) (fun _ _ _ h => h) (Or.inl ⟨by rfl, by (intro w' hSw; (try dsimp only at hSw); go_simp); (try (with_reducible rfl))⟩) (by assumption) ?_
    simp only [Act.put, List.setIfInBounds_toArray, List.set_cons_zero, List.set_cons_succ]
    refine wpAnyZ_take (i := 16) (oi := { dst := some 55, op := Go.Op.fieldAddr 140 (Go.Operand.tmp 54) 2, type := 0, pos := "ref.go:81", after := #[{ on := 15, ground := Go.Ground.data }, { on := 0, ground := Go.Ground.phase }, { on := 1, ground := Go.Ground.phase }, { on := 2, ground := Go.Ground.phase }, { on := 3, ground := Go.Ground.phase }, { on := 4, ground := Go.Ground.phase }, { on := 5, ground := Go.Ground.phase }, { on := 6, ground := Go.Ground.phase }, { on := 7, ground := Go.Ground.phase }, { on := 8, ground := Go.Ground.phase }, { on := 9, ground := Go.Ground.phase }, { on := 10, ground := Go.Ground.phase }, { on := 11, ground := Go.Ground.phase }, { on := 12, ground := Go.Ground.phase }, { on := 13, ground := Go.Ground.phase }, { on := 14, ground := Go.Ground.phase }], guard := none }) (v := _) rfl (by kernel_rfl) (by kernel_rfl) (by kernel_rfl) (by kernel_rfl) (by kernel_rfl) (fun _ _ _ h => h) (Or.inl ⟨by rfl, by (intro w' hSw; (try dsimp only at hSw); go_simp); (try (with_reducible rfl))⟩) (by assumption) ?_
    simp only [Act.put, List.setIfInBounds_toArray, List.set_cons_zero, List.set_cons_succ]
    refine wpAnyZ_ready (rs := [17]) (by kernel_rfl) (by simp) ?_
    refine ZedOne.last (o := { dst := none, op := Go.Op.store 3 (Go.Operand.tmp 55) (Go.Operand.tmp 51), type := 0, pos := "ref.go:81", after := #[{ on := 16, ground := Go.Ground.data }, { on := 11, ground := Go.Ground.data }, { on := 14, ground := Go.Ground.chain }, { on := 0, ground := Go.Ground.phase }, { on := 1, ground := Go.Ground.phase }, { on := 2, ground := Go.Ground.phase }, { on := 3, ground := Go.Ground.phase }, { on := 4, ground := Go.Ground.phase }, { on := 5, ground := Go.Ground.phase }, { on := 6, ground := Go.Ground.phase }, { on := 7, ground := Go.Ground.phase }, { on := 8, ground := Go.Ground.phase }, { on := 9, ground := Go.Ground.phase }, { on := 10, ground := Go.Ground.phase }, { on := 11, ground := Go.Ground.phase }, { on := 12, ground := Go.Ground.phase }, { on := 13, ground := Go.Ground.phase }, { on := 14, ground := Go.Ground.phase }], guard := none }) rfl (fun K hK => ?_)
    go_simp
    refine hK.out _ _ ?_
    clear hK K hS
    (try simp only [Act.put, List.setIfInBounds_toArray, List.set_cons_zero, List.set_cons_succ])
    refine wpAnyZ_done (by kernel_rfl) ?_ _
    rotate_left 1
    exact ZedOne.nil
    all_goals go_wp2
    all_goals go_returns
    all_goals obtain ⟨hown5, hF15, ht5, hgb, he⟩ := Z.out
    all_goals obtain ⟨hF1, hQ1, hn, _⟩ := X.out
    all_goals have hs1 := hF1.size
    all_goals refine ⟨⟨0, rfl⟩, _, l.set i ⟨e.id, e.addr, e.c, cap, til⟩, ⟨⟨a, rfl, Fr.keep (S := [g4]) (by (repeat (first | (with_reducible exact Fr.refl _ _) | (with_reducible assumption) | (with_reducible refine Fr.drew ?_) | (with_reducible refine Fr.drewN ?_ _) | (with_reducible refine Fr.alloc ?_ _) | (with_reducible refine Fr.mput ?_ _ _ _ (.inl (by simp))) | (with_reducible refine Fr.mdel ?_ _ _ (.inl (by simp))) | (with_reducible refine Fr.set ?_ _ _ (.inr (by first | omega | (dsimp only; omega)))) | (with_reducible refine Fr.set ?_ _ _ (.inl (by simp)))))) ht5 (by simp; omega)⟩, ?_, by rw [List.length_set]; omega⟩, ?_, ?_⟩
    · rw [List.length_set, hn]
      exact own_lower (own_set2 (enc := vcells) (fun _ => rfl) (own_fr (S := []) hown5 ((Fr.refl [] w5).drew) (by simp)) hn i hin e ⟨e.id, e.addr, e.c, cap, til⟩ he rfl rfl) (by omega)
    · intro k hk
      simp [vown, Value.ownBlock] at hk
      rcases hk with rfl | rfl
      · exact .inl (by simp [vown])
      · exact .inr (by omega)
    · exact ((hF1.mono (by simp)).trans hF15 (by simp)).trans (S' := [g4]) (by (repeat (first | (with_reducible exact Fr.refl _ _) | (with_reducible assumption) | (with_reducible refine Fr.drew ?_) | (with_reducible refine Fr.drewN ?_ _) | (with_reducible refine Fr.alloc ?_ _) | (with_reducible refine Fr.mput ?_ _ _ _ (.inl (by simp))) | (with_reducible refine Fr.mdel ?_ _ _ (.inl (by simp))) | (with_reducible refine Fr.set ?_ _ _ (.inr (by first | omega | (dsimp only; omega)))) | (with_reducible refine Fr.set ?_ _ _ (.inl (by simp)))))) (by simp; omega)
end Go.Proofs.YthahlimmmnmniaaGreatDoor
