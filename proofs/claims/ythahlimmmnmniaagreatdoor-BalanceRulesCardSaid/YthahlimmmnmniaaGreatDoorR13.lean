/- The rows of fairwayref25: New, Get, Set, Mark, Drain: they return, and touch their own blocks alone. The rows of fairwayref25: Set: it returns, and touches its own blocks alone. The rows of fairwayref25: Mark, Drain: they return, and touch their own blocks alone. -/
import Derived.Laws.OwnMore
import Derived.Test.YthahlimmmnmniaaGreatDoorR12
namespace Go.Proofs.YthahlimmmnmniaaGreatDoor
open Go.RowKit Go.Fw

set_option maxHeartbeats 400000 in
theorem qnew_any (w : World) (n : Int) (h1 : 1 ≤ n) (h2 : n ≤ 100) : Calls Tryz.prog 26 #[.int .i64 n] w fun en w' => ∃ q, en = .returned (.pointer (some ⟨q, 0, none⟩)) ∧ QAt w' q (.slice none 0 0) [] ∧ w.heap.size ≤ q ∧ Fr [] w w' := by
  go_enter Tryz.func26, Tryz.ntmps26
  go_wp2
  go_returns
  refine ⟨_, rfl, ⟨⟨n, rfl, ?_⟩, World.ownsRow_nil _ _ _ _, by simp⟩, by simp, by (repeat (first | (with_reducible exact Fr.refl _ _) | (with_reducible assumption) | (with_reducible refine Fr.drew ?_) | (with_reducible refine Fr.drewN ?_ _) | (with_reducible refine Fr.alloc ?_ _) | (with_reducible refine Fr.mput ?_ _ _ _ (.inl (by simp))) | (with_reducible refine Fr.mdel ?_ _ _ (.inl (by simp))) | (with_reducible refine Fr.set ?_ _ _ (.inr (by first | omega | (dsimp only; omega)))) | (with_reducible refine Fr.set ?_ _ _ (.inl (by simp)))))⟩
  rw [heap_alloc_if, if_pos (by simp)]

def QGetPost (w : World) (en : Ending) (w' : World) : Prop :=
  ∃ (a b c : Int) (d e : Bool), en = .returned (.agg #[.int .i64 a, .int .u32 b, .int .i64 c, .bool d, .bool e]) ∧ Fr [] w w'

theorem q_five {w : World} {b : Nat} {v0 v1 v2 v3 v4 : Value} {T : TypeId} (h : w.heap[b]? = some (.cells #[v0, v1, v2, v3, v4] T (0, 0))) :
    (w.cell? ⟨b, 0, none⟩ = some v0 ∧ w.cell? ⟨b, 1, none⟩ = some v1 ∧ w.cell? ⟨b, 2, none⟩ = some v2 ∧ w.cell? ⟨b, 3, none⟩ = some v3 ∧ w.cell? ⟨b, 4, none⟩ = some v4) ∧ w.frozen? ⟨b, 0, none⟩ = false ∧ w.frozen? ⟨b, 1, none⟩ = false ∧ w.frozen? ⟨b, 2, none⟩ = false ∧ w.frozen? ⟨b, 3, none⟩ = false ∧ w.frozen? ⟨b, 4, none⟩ = false :=
  ⟨⟨cell_at h 0 rfl, cell_at h 1 rfl, cell_at h 2 rfl, cell_at h 3 rfl, cell_at h 4 rfl⟩, free_at h 0, free_at h 1, free_at h 2, free_at h 3, free_at h 4⟩

theorem q_row {w : World} {q cp : Nat} {ad : Option Addr} {l : List QRow} (h : QAt w q (.slice ad l.length cp) l) {i : Nat} (hi : i < l.length) :
    ∃ g, ad = some ⟨g, 0, none⟩ ∧ q + 1 ≤ g ∧ g < w.heap.size ∧ l.length ≤ cp ∧ ∃ e : QRow, l[i]? = some e ∧ w.cell? ⟨g, i * 5, none⟩ = some (.int .i64 e.id) ∧ w.cell? ⟨g, i * 5 + 1, none⟩ = some (.int .u32 e.addr) ∧ w.cell? ⟨g, i * 5 + 2, none⟩ = some (.int .i64 e.c) ∧ w.cell? ⟨g, i * 5 + 3, none⟩ = some (.bool e.d) ∧ w.cell? ⟨g, i * 5 + 4, none⟩ = some (.bool e.e) := by
  obtain ⟨ad', cp', h0, hnc, h2⟩ := own_form h.row
  cases h0
  obtain ⟨g, h3, h4, h5, h6⟩ := h2 (by omega)
  obtain ⟨e, he⟩ : ∃ e, l[i]? = some e := ⟨l[i], List.getElem?_eq_getElem (by omega)⟩
  have cc := fun (t : Nat) (u : Value) (hu : (qcells e)[t]? = some u) => h6 _ _ (flat_at (k := 5) (fun _ => rfl) he hu)
  exact ⟨g, h3, h4, h5, by omega, e, he, cc 0 _ rfl, cc 1 _ rfl, cc 2 _ rfl, cc 3 _ rfl, cc 4 _ rfl⟩

set_option maxHeartbeats 2000000 in
theorem qget_any {w : World} {q : Nat} {v : Value} {l : List QRow} (h : QAt w q v l) (id : Int) :
    Calls Tryz.prog 64 #[.pointer (some ⟨q, 0, none⟩), .int .i64 id] w (QGetPost w) := by
  have hfind := fun o => qfind_any (h.fr ((Fr.refl [] w).alloc o) (by simp)) id
  have H := Lib.hid (And.intro h hfind)
  clear h hfind
  go_enter Tryz.func64, Tryz.ntmps64
  go_wp2_with fail
  refine (H.out.2 _).mono ?_
  rintro en w1 ⟨r, rfl, hr0, hr1, hfr⟩
  have hF1 : Fr [] w w1 := Fr.trans (S := []) (a := w) (by (repeat (first | (with_reducible exact Fr.refl _ _) | (with_reducible assumption) | (with_reducible refine Fr.drew ?_) | (with_reducible refine Fr.drewN ?_ _) | (with_reducible refine Fr.alloc ?_ _) | (with_reducible refine Fr.mput ?_ _ _ _ (.inl (by simp))) | (with_reducible refine Fr.mdel ?_ _ _ (.inl (by simp))) | (with_reducible refine Fr.set ?_ _ _ (.inr (by first | omega | (dsimp only; omega)))) | (with_reducible refine Fr.set ?_ _ _ (.inl (by simp)))))) hfr (by simp)
  have hB := hfr.keep (k := w.heap.size) (o := .cells #[.int .i64 0, .int .u32 0, .int .i64 0, .bool false, .bool false] 135 (0, 0)) (heap_new w _) (by simp)
  obtain ⟨⟨z0, z1, z2, z3, z4⟩, f0, f1, f2, f3, f4⟩ := q_five hB
  have lz := lt_of hB
  have hQ1 := H.out.1.fr hF1 (by simp)
  by_cases hr : r < 0
  · have HX := Lib.hid hF1
    clear hF1 hB hQ1 hfr
    go_wp2
    refine bodyPost_ret (v := .agg #[.int .i64 0, .int .u32 0, .int .i64 0, .bool false, .bool false]) (by simp [results, Tryz.results64, go_sem, z0, z1, z2, z3, z4, lz]) rfl ?_
    have hF1 := HX.out
    exact ⟨0, 0, 0, false, false, rfl, by (repeat (first | (with_reducible exact Fr.refl _ _) | (with_reducible assumption) | (with_reducible refine Fr.drew ?_) | (with_reducible refine Fr.drewN ?_ _) | (with_reducible refine Fr.alloc ?_ _) | (with_reducible refine Fr.mput ?_ _ _ _ (.inl (by simp))) | (with_reducible refine Fr.mdel ?_ _ _ (.inl (by simp))) | (with_reducible refine Fr.set ?_ _ _ (.inr (by first | omega | (dsimp only; omega)))) | (with_reducible refine Fr.set ?_ _ _ (.inl (by simp)))))⟩
  · obtain ⟨i, rfl⟩ := Int.eq_ofNat_of_zero_le (by omega : 0 ≤ r)
    obtain ⟨n, hn⟩ : ∃ n, l.length = n := ⟨_, rfl⟩
    obtain ⟨a, _, ht1⟩ := hQ1.tab
    obtain ⟨ad, cp, rfl, hnc⟩ := own_form' hQ1.row
    rw [hn] at ht1 hnc
    have t1 := cell_at ht1 1 (v := .slice ad n cp) rfl
    have lq1 := lt_of ht1
    obtain ⟨g, rfl, hgb, hgl, hcp, e, he, k0, k1, k2, k3, k4⟩ := q_row (i := i) hQ1 (by omega)
    have hgw : g < w.heap.size := H.out.1.lt g (by simp [qown, Value.ownBlock])
    rw [hn] at hcp
    have j0 : (0 : Int) ≤ i := by omega
    have j1 : (i : Int) < n := by omega
    have ng : ¬ (g = w.heap.size) := by omega
    have ng' : ¬ (w.heap.size = g) := by omega
    have HX := Lib.hid hF1
    clear hF1 hB hQ1 hfr hn hnc ht1 he hgb
    go_wp2
    refine bodyPost_ret (v := .agg #[.int .i64 e.id, .int .u32 e.addr, .int .i64 e.c, .bool e.d, .bool e.e]) (by simp [results, Tryz.results64, go_sem, z0, z1, z2, z3, z4, lz]) rfl ?_
    have hF1 := HX.out
    exact ⟨_, _, _, _, _, rfl, by (repeat (first | (with_reducible exact Fr.refl _ _) | (with_reducible assumption) | (with_reducible refine Fr.drew ?_) | (with_reducible refine Fr.drewN ?_ _) | (with_reducible refine Fr.alloc ?_ _) | (with_reducible refine Fr.mput ?_ _ _ _ (.inl (by simp))) | (with_reducible refine Fr.mdel ?_ _ _ (.inl (by simp))) | (with_reducible refine Fr.set ?_ _ _ (.inr (by first | omega | (dsimp only; omega)))) | (with_reducible refine Fr.set ?_ _ _ (.inl (by simp)))))⟩
end Go.Proofs.YthahlimmmnmniaaGreatDoor

namespace Go.Fw
open Go.RowKit

theorem set5 (xs : List Value) (p : Nat) (hp : p + 5 ≤ xs.length) (a b c d e : Value) :
    ((((xs.set p a).set (p + 1) b).set (p + 2) c).set (p + 3) d).set (p + 4) e = xs.take p ++ [a, b, c, d, e] ++ xs.drop (p + 5) := by
  apply List.ext_getElem?
  intro t
  rcases Nat.lt_or_ge t p with h | h
  · rw [List.getElem?_set_ne (by omega), List.getElem?_set_ne (by omega), List.getElem?_set_ne (by omega), List.getElem?_set_ne (by omega), List.getElem?_set_ne (by omega), List.append_assoc, List.getElem?_append_left (by rw [List.length_take]; omega), List.getElem?_take, if_pos h]
  · rcases Nat.lt_or_ge t (p + 5) with h2 | h2
    · have hl : (xs.take p).length = p := by rw [List.length_take]; omega
      rw [List.getElem?_append_left (by simp; omega), List.getElem?_append_right (by omega), hl]
      have : t = p ∨ t = p + 1 ∨ t = p + 2 ∨ t = p + 3 ∨ t = p + 4 := by omega
      rcases this with rfl | rfl | rfl | rfl | rfl
      all_goals simp [List.getElem?_set]
      all_goals omega
    · rw [List.getElem?_set_ne (by omega), List.getElem?_set_ne (by omega), List.getElem?_set_ne (by omega), List.getElem?_set_ne (by omega), List.getElem?_set_ne (by omega), List.getElem?_append_right (by simp; omega), List.getElem?_drop]
      congr 1
      simp
      omega
theorem flat_set {α : Type} {enc : α → List Value} {k : Nat} (hk : ∀ x, (enc x).length = k) (l : List α) (i : Nat) (x : α) (hi : i < l.length) :
    (l.set i x).flatMap enc = (l.flatMap enc).take (i * k) ++ enc x ++ (l.flatMap enc).drop ((i + 1) * k) := by
  rw [flat_take hk, flat_drop hk, List.set_eq_take_append_cons_drop, if_pos hi]
  simp
/-- Five cells of an own row turned: one element. -/
theorem own_set5 {w : World} {base e g n cap : Nat} {α : Type} {enc : α → List Value} (hk : ∀ x, (enc x).length = 5) {l : List α} (h : w.ownsRow base e 5 (.slice (some ⟨g, 0, none⟩) n cap) n (l.flatMap enc)) (hn : l.length = n) (i : Nat) (hi : i < n) (x : α) {v0 v1 v2 v3 v4 : Value} (hx : enc x = [v0, v1, v2, v3, v4]) :
    (((((w.setCell ⟨g, i * 5, none⟩ v0).setCell ⟨g, i * 5 + 1, none⟩ v1).setCell ⟨g, i * 5 + 2, none⟩ v2).setCell ⟨g, i * 5 + 3, none⟩ v3).setCell ⟨g, i * 5 + 4, none⟩ v4).ownsRow base e 5 (.slice (some ⟨g, 0, none⟩) n cap) n ((l.set i x).flatMap enc) := by
  have h5 := (((((h.stored (i * 5) v0).1.stored (i * 5 + 1) v1).1.stored (i * 5 + 2) v2).1.stored (i * 5 + 3) v3).1.stored (i * 5 + 4) v4).1
  rw [set5 _ _ (by rw [h.1]; omega)] at h5
  rw [flat_set hk l i x (by omega), hx]
  rw [show (i + 1) * 5 = i * 5 + 5 by omega]
  exact h5
end Go.Fw
namespace Go.Proofs.YthahlimmmnmniaaGreatDoor
open Go.RowKit Go.Fw

set_option maxRecDepth 100000 in
set_option maxHeartbeats 4000000 in
theorem qset_any {w : World} {q : Nat} {v : Value} {l : List QRow} (h : QAt w q v l) (id : Int) (up drain : Bool) (wt : Int) :
    Calls Tryz.prog 65 #[.pointer (some ⟨q, 0, none⟩), .int .i64 id, .bool up, .bool drain, .int .i64 wt] w (QPost w q v) := by
  obtain ⟨i0, hii, hz0, hz1, hz2⟩ := info_parts info_qrow
  have HI := Lib.hid (And.intro hii (And.intro hz0 (And.intro hz1 hz2)))
  clear hii hz0 hz1 hz2
  have hfind := qfind_any h id
  have hql := h.lt q (by simp [qown])
  have H := Lib.hid (And.intro h hfind)
  clear h hfind
  go_enter Tryz.func65, Tryz.ntmps65
  go_wp2_with fail
  refine (H.out.2).mono ?_
  rintro en w1 ⟨r, rfl, hr0, hr1, hF1⟩
  have hQ1 := H.out.1.fr hF1 (by simp)
  by_cases hr : r < 0
  · have HX := Lib.hid hF1
    clear hF1 hQ1
    go_wp2
    go_returns
    exact ⟨⟨_, rfl⟩, v, l, H.out.1.fr HX.out (by simp), fun k hk => .inl hk, HX.out.mono (by simp)⟩
  · obtain ⟨i, rfl⟩ := Int.eq_ofNat_of_zero_le (by omega : 0 ≤ r)
    obtain ⟨n, hn⟩ : ∃ n, l.length = n := ⟨_, rfl⟩
    obtain ⟨a, _, ht1⟩ := hQ1.tab
    have hlen := hQ1.len
    obtain ⟨ad, cp, rfl, hnc⟩ := own_form' hQ1.row
    obtain ⟨g, rfl, hgb, hgl, hcp, e, he, k0, k1, k2, k3, k4⟩ := q_row (i := i) hQ1 (by omega)
    rw [hn] at hcp hr1 hlen ht1
    have t1 := cell_at ht1 1 (v := .slice (some ⟨g, 0, none⟩) n cp) rfl
    have f1 := free_at ht1 1
    have lq1 := lt_of ht1
    have j0 : (0 : Int) ≤ i := by omega
    have j1 : (i : Int) < n := by omega
    have hin : i < n := by omega
    have hrow := hQ1.row
    have hcells : ∀ (t : Nat) (x : Value), (l.flatMap qcells)[t]? = some x → w1.cell? ⟨g, t, none⟩ = some x := fun t x hx => own_cell hrow hx
    have hlf : (l.flatMap qcells).length = n * 5 := by rw [← hn]; exact hrow.1
    have X := Lib.hid (And.intro hF1 (And.intro hQ1 (And.intro hn (And.intro ht1 (And.intro hcells (And.intro hlf (qcells_one l)))))))
    clear hF1 hQ1 hn hnc ht1 he hgb k0 k1 k2 k3 k4 hrow hcells hlf
    go_wp2_with (at_builtin; refine wpList_append_own _ rfl _ _ 130 rfl w1.heap.size 135 i0 (.agg #[.int .i64 0, .int .u32 0, .int .i64 0, .bool false, .bool false]) 5 32 Tryz.underlying130 HI.out.1 HI.out.2.1 HI.out.2.2.1 HI.out.2.2.2 rfl (by decide) _ _ _ rfl (own_made w1 135 5) ⟨g, 0, none⟩ n cp (l.flatMap qcells) rfl X.out.2.2.2.2.2.1 ?c1 ?c2 ?c3 ?c4 ?c5 ?_)
    case c1 =>
      intro t x hx
      rw [add_off]
      exact ((Fr.refl [] w1).alloc _).cell (a := ⟨g, t, none⟩) hgl (by simp) |>.trans (X.out.2.2.2.2.1 t x hx)
    case c2 => exact X.out.2.2.2.2.2.2
    case c3 => unfold maxLen; omega
    case c4 => omega
    case c5 => simp
    intro v4 w4 hown4 hg4 _
    (try simp only [Nat.zero_add, List.nil_append] at hown4)
    have hF4 : Fr [] w1 w4 := Fr.grown (S := []) (a := w1) (by (repeat (first | (with_reducible exact Fr.refl _ _) | (with_reducible assumption) | (with_reducible refine Fr.drew ?_) | (with_reducible refine Fr.drewN ?_ _) | (with_reducible refine Fr.alloc ?_ _) | (with_reducible refine Fr.mput ?_ _ _ _ (.inl (by simp))) | (with_reducible refine Fr.mdel ?_ _ _ (.inl (by simp))) | (with_reducible refine Fr.set ?_ _ _ (.inr (by first | omega | (dsimp only; omega)))) | (with_reducible refine Fr.set ?_ _ _ (.inl (by simp)))))) hg4 (fun k hk => .inr (by simp [Value.ownBlock] at hk; omega))
    obtain ⟨ad4, cp4, rfl, hnc4⟩ := own_form' hown4
    have t4 := (hF4.cell (a := ⟨q, 1, none⟩) lq1 (by simp)).trans t1
    have f4 := (hF4.free (a := ⟨q, 1, none⟩) lq1 (by simp)).trans f1
    have lq4 : q < w4.heap.size := Nat.lt_of_lt_of_le lq1 hF4.size
    have Y := Lib.hid (And.intro hown4 hF4)
    clear hown4 hg4 hF4
    go_wp2
    obtain ⟨hown4, hF4⟩ := Y.out
    obtain ⟨w5, hw5⟩ : ∃ w5, w5 = w4.setCell ⟨q, 1, none⟩ (.slice ad4 n cp4) := ⟨_, rfl⟩
    rw [← hw5]
    have hF45 : Fr [q] w4 w5 := by rw [hw5]; exact (Fr.refl _ _).set _ _ (.inl (by simp))
    have hb4 := (hF4.keep X.out.2.2.2.1 (by simp))
    have ht5 : w5.heap[q]? = some (.cells #[.int .i64 a, .slice ad4 n cp4] 132 (0, 0)) := by rw [hw5, heap_set hb4]; rfl
    have hown5 := own_fr hown4 hF45 (by simp; omega)
    have hF15 : Fr [q] w1 w5 := hF4.mono (by simp) |>.trans hF45 (by simp)
    have t5 := cell_at ht5 1 (v := .slice ad4 n cp4) rfl
    have lq5 := lt_of ht5
    have hn := X.out.2.2.1
    obtain ⟨e, he⟩ : ∃ e, l[i]? = some e := ⟨l[i], List.getElem?_eq_getElem (by omega)⟩
    rcases hown5.2 with ⟨_, h0⟩ | ⟨g4, cap, cur, h0, hgb, hgc, hcap, _⟩
    · omega
    cases h0
    have cc := fun (t : Nat) (u : Value) (hu : (qcells e)[t]? = some u) => own_cell hown5 (flat_at (k := 5) (enc := qcells) (fun _ => rfl) he hu)
    have k0 : w5.cell? ⟨g4, i * 5, none⟩ = some (.int .i64 e.id) := cc 0 _ rfl
    have k1 : w5.cell? ⟨g4, i * 5 + 1, none⟩ = some (.int .u32 e.addr) := cc 1 _ rfl
    have k2 : w5.cell? ⟨g4, i * 5 + 2, none⟩ = some (.int .i64 e.c) := cc 2 _ rfl
    have k3 : w5.cell? ⟨g4, i * 5 + 3, none⟩ = some (.bool e.d) := cc 3 _ rfl
    have k4 : w5.cell? ⟨g4, i * 5 + 4, none⟩ = some (.bool e.e) := cc 4 _ rfl
    have z0 := free_at hgc (i * 5)
    have z1 := free_at hgc (i * 5 + 1)
    have z2 := free_at hgc (i * 5 + 2)
    have z3 := free_at hgc (i * 5 + 3)
    have z4 := free_at hgc (i * 5 + 4)
    have lg5 := lt_of hgc
    have hcap' : n ≤ cp4 := hcap
    have Z := Lib.hid (And.intro hown5 (And.intro hF15 (And.intro ht5 (And.intro hgb he))))
    clear hown4 hF4 hF45 hb4 ht5 hown5 hF15 hn he hgc cc hw5 t1 f1 t4 f4 hgb hcap
    refine wp_region_zed (P := Tryz.prog) (fun wz => Fr [] w5 wz) 21 (by kernel_rfl) ?_ (fun hS => ?_)
    · exact (Fr.refl [] _).drew
    refine wpAnyZ_take (i := 0) (oi := { dst := some 26, op := Go.Op.move (Go.Operand.tmp 0), type := 40, pos := "ref.go:84", after := #[], guard := none }) (v := _) rfl (by kernel_rfl) (by kernel_rfl) (by kernel_rfl) (by kernel_rfl) (by kernel_rfl) (fun _ _ _ h => h) (Or.inl ⟨by rfl, by (intro w' hSw; (try dsimp only at hSw); go_simp); (try (with_reducible rfl))⟩) (by assumption) ?_
    simp only [Act.put, List.setIfInBounds_toArray, List.set_cons_zero, List.set_cons_succ]
    refine wpAnyZ_take (i := 1) (oi := { dst := some 27, op := Go.Op.nilCheck (Go.Operand.tmp 26), type := 0, pos := "ref.go:84", after := #[{ on := 0, ground := Go.Ground.data }], guard := none }) (v := _) rfl (by kernel_rfl) (by kernel_rfl) (by kernel_rfl) (by kernel_rfl) (by kernel_rfl) (fun _ _ _ h => h) (Or.inl ⟨by rfl, by (intro w' hSw; (try dsimp only at hSw); go_simp); (try (with_reducible rfl))⟩) (by assumption) ?_
    simp only [Act.put, List.setIfInBounds_toArray, List.set_cons_zero, List.set_cons_succ]
    refine wpAnyZ_take (i := 2) (oi := { dst := some 28, op := Go.Op.fieldAddr 132 (Go.Operand.tmp 27) 1, type := 0, pos := "ref.go:84", after := #[{ on := 1, ground := Go.Ground.data }], guard := none }) (v := _) rfl (by kernel_rfl) (by kernel_rfl) (by kernel_rfl) (by kernel_rfl) (by kernel_rfl) (fun _ _ _ h => h) (Or.inl ⟨by rfl, by (intro w' hSw; (try dsimp only at hSw); go_simp); (try (with_reducible rfl))⟩) (by assumption) ?_
    simp only [Act.put, List.setIfInBounds_toArray, List.set_cons_zero, List.set_cons_succ]
    refine wpAnyZ_take (i := 3) (oi := { dst := some 29, op := Go.Op.load 130 (Go.Operand.tmp 28), type := 130, pos := "ref.go:84", after := #[{ on := 2, ground := Go.Ground.data }], guard := none }) (v := _) rfl (by kernel_rfl) (by kernel_rfl) (by kernel_rfl) (by kernel_rfl) (by kernel_rfl) (fun _ _ _ h => h) (Or.inl ⟨by rfl, by (intro w' hSw; have y5 := (hSw.cell (a := ⟨q, 1, none⟩) lq5 (by simp)).trans t5; have y1 := (hSw.cell (a := ⟨g4, i * 5 + 1, none⟩) lg5 (by simp)).trans k1; (try dsimp only at hSw); go_simp); (try (with_reducible rfl))⟩) (by assumption) ?_
    simp only [Act.put, List.setIfInBounds_toArray, List.set_cons_zero, List.set_cons_succ]
    refine wpAnyZ_take (i := 4) (oi := { dst := some 30, op := Go.Op.move (Go.Operand.tmp 11), type := 3, pos := "ref.go:84", after := #[], guard := none }) (v := _) rfl (by kernel_rfl) (by kernel_rfl) (by kernel_rfl) (by kernel_rfl) (by kernel_rfl) (fun _ _ _ h => h) (Or.inl ⟨by rfl, by (intro w' hSw; (try dsimp only at hSw); go_simp); (try (with_reducible rfl))⟩) (by assumption) ?_
    simp only [Act.put, List.setIfInBounds_toArray, List.set_cons_zero, List.set_cons_succ]
    refine wpAnyZ_take (i := 5) (oi := { dst := some 31, op := Go.Op.move (Go.Operand.tmp 1), type := 3, pos := "ref.go:84", after := #[], guard := none }) (v := _) rfl (by kernel_rfl) (by kernel_rfl) (by kernel_rfl) (by kernel_rfl) (by kernel_rfl) (fun _ _ _ h => h) (Or.inl ⟨by rfl, by (intro w' hSw; (try dsimp only at hSw); go_simp); (try (with_reducible rfl))⟩) (by assumption) ?_
    simp only [Act.put, List.setIfInBounds_toArray, List.set_cons_zero, List.set_cons_succ]
    refine wpAnyZ_take (i := 6) (oi := { dst := some 32, op := Go.Op.move (Go.Operand.tmp 0), type := 40, pos := "ref.go:84", after := #[], guard := none }) (v := _) rfl (by kernel_rfl) (by kernel_rfl) (by kernel_rfl) (by kernel_rfl) (by kernel_rfl) (fun _ _ _ h => h) (Or.inl ⟨by rfl, by (intro w' hSw; (try dsimp only at hSw); go_simp); (try (with_reducible rfl))⟩) (by assumption) ?_
    simp only [Act.put, List.setIfInBounds_toArray, List.set_cons_zero, List.set_cons_succ]
    refine wpAnyZ_take (i := 7) (oi := { dst := some 33, op := Go.Op.nilCheck (Go.Operand.tmp 32), type := 0, pos := "ref.go:84", after := #[{ on := 6, ground := Go.Ground.data }], guard := none }) (v := _) rfl (by kernel_rfl) (by kernel_rfl) (by kernel_rfl) (by kernel_rfl) (by kernel_rfl) (fun _ _ _ h => h) (Or.inl ⟨by rfl, by (intro w' hSw; (try dsimp only at hSw); go_simp); (try (with_reducible rfl))⟩) (by assumption) ?_
    simp only [Act.put, List.setIfInBounds_toArray, List.set_cons_zero, List.set_cons_succ]
    refine wpAnyZ_take (i := 8) (oi := { dst := some 34, op := Go.Op.fieldAddr 132 (Go.Operand.tmp 33) 1, type := 0, pos := "ref.go:84", after := #[{ on := 7, ground := Go.Ground.data }], guard := none }) (v := _) rfl (by kernel_rfl) (by kernel_rfl) (by kernel_rfl) (by kernel_rfl) (by kernel_rfl) (fun _ _ _ h => h) (Or.inl ⟨by rfl, by (intro w' hSw; (try dsimp only at hSw); go_simp); (try (with_reducible rfl))⟩) (by assumption) ?_
    simp only [Act.put, List.setIfInBounds_toArray, List.set_cons_zero, List.set_cons_succ]
    refine wpAnyZ_take (i := 9) (oi := { dst := some 35, op := Go.Op.load 130 (Go.Operand.tmp 34), type := 130, pos := "ref.go:84", after := #[{ on := 8, ground := Go.Ground.data }], guard := none }) (v := _) rfl (by kernel_rfl) (by kernel_rfl) (by kernel_rfl) (by kernel_rfl) (by kernel_rfl) (fun _ _ _ h => h) (Or.inl ⟨by rfl, by (intro w' hSw; have y5 := (hSw.cell (a := ⟨q, 1, none⟩) lq5 (by simp)).trans t5; have y1 := (hSw.cell (a := ⟨g4, i * 5 + 1, none⟩) lg5 (by simp)).trans k1; (try dsimp only at hSw); go_simp); (try (with_reducible rfl))⟩) (by assumption) ?_
    simp only [Act.put, List.setIfInBounds_toArray, List.set_cons_zero, List.set_cons_succ]
    refine wpAnyZ_take (i := 10) (oi := { dst := some 36, op := Go.Op.move (Go.Operand.tmp 11), type := 3, pos := "ref.go:84", after := #[], guard := none }) (v := _) rfl (by kernel_rfl) (by kernel_rfl) (by kernel_rfl) (by kernel_rfl) (by kernel_rfl) (fun _ _ _ h => h) (Or.inl ⟨by rfl, by (intro w' hSw; (try dsimp only at hSw); go_simp); (try (with_reducible rfl))⟩) (by assumption) ?_
    simp only [Act.put, List.setIfInBounds_toArray, List.set_cons_zero, List.set_cons_succ]
    refine wpAnyZ_take (i := 11) (oi := { dst := some 37, op := Go.Op.indexAddr 130 (Go.Operand.tmp 35) (Go.Operand.tmp 36), type := 0, pos := "ref.go:84", after := #[{ on := 9, ground := Go.Ground.data }, { on := 10, ground := Go.Ground.data }], guard := none }) (v := _) rfl (by kernel_rfl) (by kernel_rfl) (by kernel_rfl) (by kernel_rfl) (by kernel_rfl) (fun _ _ _ h => h) (Or.inl ⟨by rfl, by (intro w' hSw; (try dsimp only at hSw); go_simp); (try (with_reducible rfl))⟩) (by assumption) ?_
    simp only [Act.put, List.setIfInBounds_toArray, List.set_cons_zero, List.set_cons_succ]
    refine wpAnyZ_take (i := 12) (oi := { dst := some 38, op := Go.Op.fieldAddr 135 (Go.Operand.tmp 37) 0, type := 0, pos := "ref.go:84", after := #[{ on := 11, ground := Go.Ground.data }], guard := none }) (v := _) rfl (by kernel_rfl) (by kernel_rfl) (by kernel_rfl) (by kernel_rfl) (by kernel_rfl) (fun _ _ _ h => h) (Or.inl ⟨by rfl, by (intro w' hSw; (try dsimp only at hSw); go_simp); (try (with_reducible rfl))⟩) (by assumption) ?_
    simp only [Act.put, List.setIfInBounds_toArray, List.set_cons_zero, List.set_cons_succ]
    refine wpAnyZ_take (i := 13) (oi := { dst := some 39, op := Go.Op.fieldAddr 56 (Go.Operand.tmp 38) 1, type := 0, pos := "ref.go:84", after := #[{ on := 12, ground := Go.Ground.data }], guard := none }) (v := _) rfl (by kernel_rfl) (by kernel_rfl) (by kernel_rfl) (by kernel_rfl) (by kernel_rfl) (fun _ _ _ h => h) (Or.inl ⟨by rfl, by (intro w' hSw; (try dsimp only at hSw); go_simp); (try (with_reducible rfl))⟩) (by assumption) ?_
    simp only [Act.put, List.setIfInBounds_toArray, List.set_cons_zero, List.set_cons_succ]
    refine wpAnyZ_take (i := 14) (oi := { dst := some 40, op := Go.Op.load 29 (Go.Operand.tmp 39), type := 29, pos := "ref.go:84", after := #[{ on := 13, ground := Go.Ground.data }], guard := none }) (v := _) rfl (by kernel_rfl) (by kernel_rfl) (by kernel_rfl) (by kernel_rfl) (by kernel_rfl) (fun _ _ _ h => h) (Or.inl ⟨by rfl, by (intro w' hSw; have y5 := (hSw.cell (a := ⟨q, 1, none⟩) lq5 (by simp)).trans t5; have y1 := (hSw.cell (a := ⟨g4, i * 5 + 1, none⟩) lg5 (by simp)).trans k1; (try dsimp only at hSw); go_simp); (try (with_reducible rfl))⟩) (by assumption) ?_
    simp only [Act.put, List.setIfInBounds_toArray, List.set_cons_zero, List.set_cons_succ]
    refine wpAnyZ_take (i := 15) (oi := { dst := some 41, op := Go.Op.move (Go.Operand.tmp 4), type := 3, pos := "ref.go:84", after := #[], guard := none }) (v := _) rfl (by kernel_rfl) (by kernel_rfl) (by kernel_rfl) (by kernel_rfl) (by kernel_rfl) (fun _ _ _ h => h) (Or.inl ⟨by rfl, by (intro w' hSw; (try dsimp only at hSw); go_simp); (try (with_reducible rfl))⟩) (by assumption) ?_
    simp only [Act.put, List.setIfInBounds_toArray, List.set_cons_zero, List.set_cons_succ]
    refine wpAnyZ_take (i := 16) (oi := { dst := some 42, op := Go.Op.build 56 #[(0, Go.Operand.tmp 31), (1, Go.Operand.tmp 40), (2, Go.Operand.tmp 41)], type := 56, pos := "ref.go:84", after := #[{ on := 5, ground := Go.Ground.data }, { on := 14, ground := Go.Ground.data }, { on := 15, ground := Go.Ground.data }], guard := none }) (v := _) rfl (by kernel_rfl) (by kernel_rfl) (by kernel_rfl) (by kernel_rfl) (by kernel_rfl) (fun _ _ _ h => h) (Or.inl ⟨by rfl, by (intro w' hSw; (try dsimp only at hSw); go_simp); (try (with_reducible rfl))⟩) (by assumption) ?_
    simp only [Act.put, List.setIfInBounds_toArray, List.set_cons_zero, List.set_cons_succ]
    refine wpAnyZ_take (i := 17) (oi := { dst := some 43, op := Go.Op.move (Go.Operand.tmp 2), type := 4, pos := "ref.go:84", after := #[], guard := none }) (v := _) rfl (by kernel_rfl) (by kernel_rfl) (by kernel_rfl) (by kernel_rfl) (by kernel_rfl) (fun _ _ _ h => h) (Or.inl ⟨by rfl, by (intro w' hSw; (try dsimp only at hSw); go_simp); (try (with_reducible rfl))⟩) (by assumption) ?_
    simp only [Act.put, List.setIfInBounds_toArray, List.set_cons_zero, List.set_cons_succ]
    refine wpAnyZ_take (i := 18) (oi := { dst := some 44, op := Go.Op.move (Go.Operand.tmp 3), type := 4, pos := "ref.go:84", after := #[], guard := none }) (v := _) rfl (by kernel_rfl) (by kernel_rfl) (by kernel_rfl) (by kernel_rfl) (by kernel_rfl) (fun _ _ _ h => h) (Or.inl ⟨by rfl, by (intro w' hSw; (try dsimp only at hSw); go_simp); (try (with_reducible rfl))⟩) (by assumption) ?_
    simp only [Act.put, List.setIfInBounds_toArray, List.set_cons_zero, List.set_cons_succ]
    refine wpAnyZ_take (i := 19) (oi := { dst := some 45, op := Go.Op.build 135 #[(0, Go.Operand.tmp 42), (1, Go.Operand.tmp 43), (2, Go.Operand.tmp 44)], type := 135, pos := "ref.go:84", after := #[{ on := 16, ground := Go.Ground.data }, { on := 17, ground := Go.Ground.data }, { on := 18, ground := Go.Ground.data }], guard := none }) (v := _) rfl (by kernel_rfl) (by kernel_rfl) (by kernel_rfl) (by kernel_rfl) (by kernel_rfl) (fun _ _ _ h => h) (Or.inl ⟨by rfl, by (intro w' hSw; (try dsimp only at hSw); go_simp); (try (with_reducible rfl))⟩) (by assumption) ?_
    simp only [Act.put, List.setIfInBounds_toArray, List.set_cons_zero, List.set_cons_succ]
    refine wpAnyZ_take (i := 20) (oi := { dst := some 46, op := Go.Op.indexAddr 130 (Go.Operand.tmp 29) (Go.Operand.tmp 30), type := 0, pos := "ref.go:84", after := #[{ on := 3, ground := Go.Ground.data }, { on := 4, ground := Go.Ground.data }, { on := 0, ground := Go.Ground.phase }, { on := 1, ground := Go.Ground.phase }, { on := 2, ground := Go.Ground.phase }, { on := 3, ground := Go.Ground.phase }, { on := 4, ground := Go.Ground.phase }, { on := 5, ground := Go.Ground.phase }, { on := 6, ground := Go.Ground.phase }, { on := 7, ground := Go.Ground.phase }, { on := 8, ground := Go.Ground.phase }, { on := 9, ground := Go.Ground.phase }, { on := 10, ground := Go.Ground.phase }, { on := 11, ground := Go.Ground.phase }, { on := 12, ground := Go.Ground.phase }, { on := 13, ground := Go.Ground.phase }, { on := 14, ground := Go.Ground.phase }, { on := 15, ground := Go.Ground.phase }, { on := 16, ground := Go.Ground.phase }, { on := 17, ground := Go.Ground.phase }, { on := 18, ground := Go.Ground.phase }, { on := 19, ground := Go.Ground.phase }], guard := none }) (v := _) rfl (by kernel_rfl) (by kernel_rfl) (by kernel_rfl) (by kernel_rfl) (by kernel_rfl) (fun _ _ _ h => h) (Or.inl ⟨by rfl, by (intro w' hSw; (try dsimp only at hSw); go_simp); (try (with_reducible rfl))⟩) (by assumption) ?_
    simp only [Act.put, List.setIfInBounds_toArray, List.set_cons_zero, List.set_cons_succ]
    refine wpAnyZ_ready (rs := [21]) (by kernel_rfl) (by simp) ?_
    refine ZedOne.last (o := { dst := none, op := Go.Op.store 135 (Go.Operand.tmp 46) (Go.Operand.tmp 45), type := 0, pos := "ref.go:84", after := #[{ on := 20, ground := Go.Ground.data }, { on := 19, ground := Go.Ground.data }, { on := 0, ground := Go.Ground.phase }, { on := 1, ground := Go.Ground.phase }, { on := 2, ground := Go.Ground.phase }, { on := 3, ground := Go.Ground.phase }, { on := 4, ground := Go.Ground.phase }, { on := 5, ground := Go.Ground.phase }, { on := 6, ground := Go.Ground.phase }, { on := 7, ground := Go.Ground.phase }, { on := 8, ground := Go.Ground.phase }, { on := 9, ground := Go.Ground.phase }, { on := 10, ground := Go.Ground.phase }, { on := 11, ground := Go.Ground.phase }, { on := 12, ground := Go.Ground.phase }, { on := 13, ground := Go.Ground.phase }, { on := 14, ground := Go.Ground.phase }, { on := 15, ground := Go.Ground.phase }, { on := 16, ground := Go.Ground.phase }, { on := 17, ground := Go.Ground.phase }, { on := 18, ground := Go.Ground.phase }, { on := 19, ground := Go.Ground.phase }], guard := none }) rfl (fun K hK => ?_)
    have y0 := (hS.cell (a := ⟨g4, i * 5, none⟩) lg5 (by simp)).trans k0
    have y1 := (hS.cell (a := ⟨g4, i * 5 + 1, none⟩) lg5 (by simp)).trans k1
    have y2 := (hS.cell (a := ⟨g4, i * 5 + 2, none⟩) lg5 (by simp)).trans k2
    have y3 := (hS.cell (a := ⟨g4, i * 5 + 3, none⟩) lg5 (by simp)).trans k3
    have y4 := (hS.cell (a := ⟨g4, i * 5 + 4, none⟩) lg5 (by simp)).trans k4
    have x0 := (hS.free (a := ⟨g4, i * 5, none⟩) lg5 (by simp)).trans z0
    have x1 := (hS.free (a := ⟨g4, i * 5 + 1, none⟩) lg5 (by simp)).trans z1
    have x2 := (hS.free (a := ⟨g4, i * 5 + 2, none⟩) lg5 (by simp)).trans z2
    have x3 := (hS.free (a := ⟨g4, i * 5 + 3, none⟩) lg5 (by simp)).trans z3
    have x4 := (hS.free (a := ⟨g4, i * 5 + 4, none⟩) lg5 (by simp)).trans z4
    go_simp
    refine hK.out _ _ ?_
    clear hK K hS
    (try simp only [Act.put, List.setIfInBounds_toArray, List.set_cons_zero, List.set_cons_succ])
    refine wpAnyZ_done (by kernel_rfl) ?_ _
    rotate_left 1
    all_goals go_wp2
    all_goals go_returns
    all_goals obtain ⟨hown5, hF15, ht5, hgb, he⟩ := Z.out
    all_goals obtain ⟨hF1, hQ1, hn, _⟩ := X.out
    all_goals have hs1 := hF1.size
    all_goals refine ⟨⟨0, rfl⟩, _, l.set i ⟨id, e.addr, wt, up, drain⟩, ⟨⟨a, rfl, Fr.keep (S := [g4]) (by (repeat (first | (with_reducible exact Fr.refl _ _) | (with_reducible assumption) | (with_reducible refine Fr.drew ?_) | (with_reducible refine Fr.drewN ?_ _) | (with_reducible refine Fr.alloc ?_ _) | (with_reducible refine Fr.mput ?_ _ _ _ (.inl (by simp))) | (with_reducible refine Fr.mdel ?_ _ _ (.inl (by simp))) | (with_reducible refine Fr.set ?_ _ _ (.inr (by first | omega | (dsimp only; omega)))) | (with_reducible refine Fr.set ?_ _ _ (.inl (by simp)))))) ht5 (by simp; omega)⟩, ?_, by rw [List.length_set]; omega⟩, ?_, ?_⟩
    · rw [List.length_set, hn]
      exact own_lower (own_set5 (enc := qcells) (fun _ => rfl) (own_fr (S := []) hown5 ((Fr.refl [] w5).drew) (by simp)) hn i hin ⟨id, e.addr, wt, up, drain⟩ rfl) (by omega)
    · intro k hk
      simp [qown, Value.ownBlock] at hk
      rcases hk with rfl | rfl
      · exact .inl (by simp [qown])
      · exact .inr (by omega)
    · exact ((hF1.mono (by simp)).trans hF15 (by simp)).trans (S' := [g4]) (by (repeat (first | (with_reducible exact Fr.refl _ _) | (with_reducible assumption) | (with_reducible refine Fr.drew ?_) | (with_reducible refine Fr.drewN ?_ _) | (with_reducible refine Fr.alloc ?_ _) | (with_reducible refine Fr.mput ?_ _ _ _ (.inl (by simp))) | (with_reducible refine Fr.mdel ?_ _ _ (.inl (by simp))) | (with_reducible refine Fr.set ?_ _ _ (.inr (by first | omega | (dsimp only; omega)))) | (with_reducible refine Fr.set ?_ _ _ (.inl (by simp)))))) (by simp; omega)
end Go.Proofs.YthahlimmmnmniaaGreatDoor

namespace Go.Proofs.YthahlimmmnmniaaGreatDoor
open Go.RowKit Go.Fw

theorem QPost.lift {w w1 w2 : World} {q : Nat} {v : Value} {en : Ending} (hF : Fr [] w w1) (h : QPost w1 q v en w2) : QPost w q v en w2 := by
  obtain ⟨h1, v', l', h2, h3, h4⟩ := h
  refine ⟨h1, v', l', h2, fun k hk => ?_, (hF.mono (by simp)).trans h4 (by simp)⟩
  rcases h3 k hk with h | h
  · exact .inl h
  · exact .inr (Nat.le_trans hF.size h)

set_option maxHeartbeats 2000000 in
theorem qmark_any {w : World} {q : Nat} {v : Value} {l : List QRow} (h : QAt w q v l) (id : Int) (up : Bool) :
    Calls Tryz.prog 29 #[.pointer (some ⟨q, 0, none⟩), .int .i64 id, .bool up] w (QPost w q v) := by
  have hget := qget_any h id
  have H := Lib.hid (And.intro h hget)
  clear h hget
  go_enter Tryz.func29, Tryz.ntmps29
  go_wp2_with fail
  refine (H.out.2).mono ?_
  rintro en w1 ⟨a, b, c, d, e, rfl, hF1⟩
  have hset := fun W (hW : Fr [] w1 W) => qset_any ((H.out.1.fr hF1 (by simp)).fr hW (by simp)) id up e c
  have X := Lib.hid (And.intro hF1 hset)
  clear hF1 hset
  go_wp2_with fail
  refine (X.out.2 _ (by (repeat (first | (with_reducible exact Fr.refl _ _) | (with_reducible assumption) | (with_reducible refine Fr.drew ?_) | (with_reducible refine Fr.drewN ?_ _) | (with_reducible refine Fr.alloc ?_ _) | (with_reducible refine Fr.mput ?_ _ _ _ (.inl (by simp))) | (with_reducible refine Fr.mdel ?_ _ _ (.inl (by simp))) | (with_reducible refine Fr.set ?_ _ _ (.inr (by first | omega | (dsimp only; omega)))) | (with_reducible refine Fr.set ?_ _ _ (.inl (by simp))))))).mono ?_
  rintro en w2 ⟨⟨x, rfl⟩, hp⟩
  have Y := Lib.hid hp
  clear hp
  go_wp2
  go_returns
  refine QPost.lift (w1 := w1) X.out.1 (QPost.lift (by (repeat (first | (with_reducible exact Fr.refl _ _) | (with_reducible assumption) | (with_reducible refine Fr.drew ?_) | (with_reducible refine Fr.drewN ?_ _) | (with_reducible refine Fr.alloc ?_ _) | (with_reducible refine Fr.mput ?_ _ _ _ (.inl (by simp))) | (with_reducible refine Fr.mdel ?_ _ _ (.inl (by simp))) | (with_reducible refine Fr.set ?_ _ _ (.inr (by first | omega | (dsimp only; omega)))) | (with_reducible refine Fr.set ?_ _ _ (.inl (by simp)))))) ⟨⟨x, rfl⟩, Y.out⟩)

set_option maxHeartbeats 2000000 in
theorem qdrain_any {w : World} {q : Nat} {v : Value} {l : List QRow} (h : QAt w q v l) (id : Int) (dr : Bool) :
    Calls Tryz.prog 30 #[.pointer (some ⟨q, 0, none⟩), .int .i64 id, .bool dr] w (QPost w q v) := by
  have hget := qget_any h id
  have H := Lib.hid (And.intro h hget)
  clear h hget
  go_enter Tryz.func30, Tryz.ntmps30
  go_wp2_with fail
  refine (H.out.2).mono ?_
  rintro en w1 ⟨a, b, c, d, e, rfl, hF1⟩
  have hset := fun W (hW : Fr [] w1 W) => qset_any ((H.out.1.fr hF1 (by simp)).fr hW (by simp)) id d dr c
  have X := Lib.hid (And.intro hF1 hset)
  clear hF1 hset
  go_wp2_with fail
  refine (X.out.2 _ (by (repeat (first | (with_reducible exact Fr.refl _ _) | (with_reducible assumption) | (with_reducible refine Fr.drew ?_) | (with_reducible refine Fr.drewN ?_ _) | (with_reducible refine Fr.alloc ?_ _) | (with_reducible refine Fr.mput ?_ _ _ _ (.inl (by simp))) | (with_reducible refine Fr.mdel ?_ _ _ (.inl (by simp))) | (with_reducible refine Fr.set ?_ _ _ (.inr (by first | omega | (dsimp only; omega)))) | (with_reducible refine Fr.set ?_ _ _ (.inl (by simp))))))).mono ?_
  rintro en w2 ⟨⟨x, rfl⟩, hp⟩
  have Y := Lib.hid hp
  clear hp
  go_wp2
  go_returns
  refine QPost.lift (w1 := w1) X.out.1 (QPost.lift (by (repeat (first | (with_reducible exact Fr.refl _ _) | (with_reducible assumption) | (with_reducible refine Fr.drew ?_) | (with_reducible refine Fr.drewN ?_ _) | (with_reducible refine Fr.alloc ?_ _) | (with_reducible refine Fr.mput ?_ _ _ _ (.inl (by simp))) | (with_reducible refine Fr.mdel ?_ _ _ (.inl (by simp))) | (with_reducible refine Fr.set ?_ _ _ (.inr (by first | omega | (dsimp only; omega)))) | (with_reducible refine Fr.set ?_ _ _ (.inl (by simp)))))) ⟨⟨x, rfl⟩, Y.out⟩)
end Go.Proofs.YthahlimmmnmniaaGreatDoor
