/- made: of a world of the law its tables. Plain facts on pools; the decision, of all tables; light. lives: the document's example. BalanceSticks: the walk. BalanceRules: plain facts. -/
import Derived.Test.YthahlimmmnmniaaGreatDoorR22
namespace Go.Proofs.YthahlimmmnmniaaGreatDoor
open Go.RowKit Go.Fw

set_option maxRecDepth 100000 in
set_option maxHeartbeats 8000000 in
theorem made_any {w : World} {x : WArg} (hx : WorldIn w x) :
    Calls Tryz.prog 7 #[.agg #[.int .i64 x.pct, .slice x.bk.ad x.bk.n x.bk.c, .slice x.up.ad x.up.n x.up.c, .slice x.dr.ad x.dr.n x.dr.c, .slice x.st.ad x.st.n x.st.c, .slice x.cp.ad x.cp.n x.cp.c, .slice x.fl.ad x.fl.n x.fl.c, .slice x.wh.ad x.wh.n x.wh.c]] w (MadePost w x) := by
  have hpct : 1 ≤ percentOf x.pct ∧ percentOf x.pct ≤ 100 := by unfold percentOf; omega
  have hn : wrap64 (1 + wrap64 ((IntKind.u64.wrap x.pct).tmod 100)) = percentOf x.pct := by
    have h0 := wrap64_bd x.pct
    rw [Int.tmod_eq_emod_of_nonneg h0.1]
    unfold percentOf
    have hr : 0 ≤ IntKind.u64.wrap x.pct % 100 ∧ IntKind.u64.wrap x.pct % 100 < 100 := by omega
    generalize IntKind.u64.wrap x.pct % 100 = y at hr ⊢
    rw [IntWalk.wrap64_in y ⟨by omega, by omega⟩, IntWalk.wrap64_in (1 + y) ⟨by omega, by omega⟩]
  obtain ⟨m, hm⟩ : ∃ m, percentOf x.pct = m := ⟨_, rfl⟩
  rw [hm] at hn hpct
  obtain ⟨n0, n1⟩ := hpct
  have HX := Lib.hid hx
  obtain ⟨m1, m2⟩ : x.bk.n ≤ 9223372036854775807 ∧ x.st.n ≤ 9223372036854775807 := ⟨Nat.le_trans hx.bk.cap hx.bk.max, Nat.le_trans hx.st.cap hx.st.max⟩
  have m3 : x.fl.n ≤ 9223372036854775807 := Nat.le_trans hx.fl.cap hx.fl.max
  have HM := Lib.hid hm
  clear hx hm
  obtain ⟨ab, hab⟩ : ∃ a, x.bk.ad = a := ⟨_, rfl⟩
  obtain ⟨au, hau⟩ : ∃ a, x.up.ad = a := ⟨_, rfl⟩
  obtain ⟨ad, had⟩ : ∃ a, x.dr.ad = a := ⟨_, rfl⟩
  obtain ⟨as_, has⟩ : ∃ a, x.st.ad = a := ⟨_, rfl⟩
  obtain ⟨ac, hac⟩ : ∃ a, x.cp.ad = a := ⟨_, rfl⟩
  obtain ⟨af, haf⟩ : ∃ a, x.fl.ad = a := ⟨_, rfl⟩
  obtain ⟨aw, haw⟩ : ∃ a, x.wh.ad = a := ⟨_, rfl⟩
  rw [hab, hau, had, has, hac, haf, haw]
  have HA := Lib.hid (And.intro hab (And.intro hau (And.intro had (And.intro has (And.intro hac (And.intro haf haw))))))
  clear hab hau had has hac haf haw
  go_enter Tryz.func7, Tryz.ntmps7
  go_wp2_with fail
  refine (new_tab 20 100 _ (by decide) (by decide) (by decide) (by decide)).mono ?_
  rintro en w1 ⟨t, mb, rr, rfl, hT, t1, t2, t3, f1⟩
  have A1 := Lib.hid (And.intro hT (And.intro t1 (And.intro t2 (And.intro t3 f1))))
  clear hT t1 t2 t3 f1
  go_wp2_with fail
  refine (new_pool m _ n0 n1).mono ?_
  rintro en w2 ⟨p, pb, rfl, hP, p1, p2, f2⟩
  have A2 := Lib.hid (And.intro hP (And.intro p1 (And.intro p2 f2)))
  clear hP p1 p2 f2
  go_wp2_with fail
  refine (new_sib _).mono ?_
  rintro en w3 ⟨s, sm, rm, rfl, hS, s1, s2, s3, f3⟩
  have A3 := Lib.hid (And.intro hS (And.intro s1 (And.intro s2 (And.intro s3 f3))))
  clear hS s1 s2 s3 f3
  go_wp2_with fail
  refine (unew_any _).mono ?_
  rintro en w4 ⟨rfl, hU, f4⟩
  obtain ⟨u, hu⟩ : ∃ u, w3.heap.size = u := ⟨_, rfl⟩
  rw [hu] at hU ⊢
  have A4 := Lib.hid (And.intro hU (And.intro hu f4))
  clear hU hu f4
  go_wp2_with fail
  refine (qnew_any _ m n0 n1).mono ?_
  rintro en w5 ⟨q, rfl, hQ, q1, f5⟩
  have A5 := Lib.hid (And.intro hQ (And.intro q1 f5))
  clear hQ q1 f5
  have hF : Fr [] w w5 := by
    obtain ⟨_, _, _, _, f1⟩ := A1.out
    obtain ⟨_, _, _, f2⟩ := A2.out
    obtain ⟨_, _, _, _, f3⟩ := A3.out
    obtain ⟨_, _, f4⟩ := A4.out
    obtain ⟨_, _, f5⟩ := A5.out
    exact ((((Fr.trans (S := []) (a := w) (by (repeat (first | (with_reducible exact Fr.refl _ _) | (with_reducible assumption) | (with_reducible refine Fr.drew ?_) | (with_reducible refine Fr.drewN ?_ _) | (with_reducible refine Fr.alloc ?_ _) | (with_reducible refine Fr.mput ?_ _ _ _ (.inl (by simp))) | (with_reducible refine Fr.mdel ?_ _ _ (.inl (by simp))) | (with_reducible refine Fr.set ?_ _ _ (.inr (by first | omega | (dsimp only; omega)))) | (with_reducible refine Fr.set ?_ _ _ (.inl (by simp)))))) f1 (by simp)).trans f2 (by simp)).trans f3 (by simp)).trans f4 (by simp)).trans f5 (by simp)
  have hF1 : Fr [] ((w.alloc (.cells x.cells 28)).alloc (.cells #[.pointer none, .pointer none, .pointer none, .pointer none, .pointer none, .pointer none] 43)) w5 := by
    obtain ⟨_, _, _, _, f1⟩ := A1.out
    obtain ⟨_, _, _, f2⟩ := A2.out
    obtain ⟨_, _, _, _, f3⟩ := A3.out
    obtain ⟨_, _, f4⟩ := A4.out
    obtain ⟨_, _, f5⟩ := A5.out
    have hxc : x.cells = #[.int .i64 x.pct, .slice ab x.bk.n x.bk.c, .slice au x.up.n x.up.c, .slice ad x.dr.n x.dr.c, .slice as_ x.st.n x.st.c, .slice ac x.cp.n x.cp.c, .slice af x.fl.n x.fl.c, .slice aw x.wh.n x.wh.c] := by
      obtain ⟨e1, e2, e3, e4, e5, e6, e7⟩ := HA.out
      simp only [WArg.cells, Sl.val, e1, e2, e3, e4, e5, e6, e7]
    rw [hxc]
    exact (((f1.trans f2 (by simp)).trans f3 (by simp)).trans f4 (by simp)).trans f5 (by simp)
  have hwb := hF1.keep (k := w.heap.size) (o := .cells x.cells 28 (0, 0)) (by rw [heap_alloc_if, if_neg (by simp), heap_alloc_if, if_pos rfl]) (by simp)
  have hrb := hF1.keep (k := w.heap.size + 1) (o := .cells #[.pointer none, .pointer none, .pointer none, .pointer none, .pointer none, .pointer none] 43 (0, 0)) (by rw [heap_alloc_if, if_pos (by simp)]) (by simp)
  have c1 := cell_at hwb 1 (v := .slice x.bk.ad x.bk.n x.bk.c) rfl
  rw [HA.out.1] at c1
  have lwb := lt_of hwb
  have lrb := lt_of hrb
  have A6 := Lib.hid (And.intro hF (And.intro hwb hrb))
  clear hF hF1 hwb hrb
  go_wp2_with fail
  have hV : VAt (w5.alloc (.cells #[.slice none 0 0] 80)) w5.heap.size (.slice none 0 0) [] := ⟨⟨0, rfl, heap_new _ _⟩, World.ownsRow_nil _ _ _ _, by simp⟩
  obtain ⟨hT, t1, t2, t3, f1⟩ := A1.out
  obtain ⟨hP, p1, p2, f2⟩ := A2.out
  obtain ⟨hS, s1, s2, s3, f3⟩ := A3.out
  obtain ⟨hU, hu, f4⟩ := A4.out
  obtain ⟨hQ, q1, f5⟩ := A5.out
  obtain ⟨hF, hwb, hrb⟩ := A6.out
  have hB := (both_make (F := [w.heap.size, w.heap.size + 1]) (w0 := w) (by (repeat (first | (with_reducible exact Fr.refl _ _) | (with_reducible assumption) | (with_reducible refine Fr.drew ?_) | (with_reducible refine Fr.drewN ?_ _) | (with_reducible refine Fr.alloc ?_ _) | (with_reducible refine Fr.mput ?_ _ _ _ (.inl (by simp))) | (with_reducible refine Fr.mdel ?_ _ _ (.inl (by simp))) | (with_reducible refine Fr.set ?_ _ _ (.inr (by first | omega | (dsimp only; omega)))) | (with_reducible refine Fr.set ?_ _ _ (.inl (by simp)))))) hT t1 t2 t3 f1 hP n0 n1 p1 p2 f2 hS s1 s2 s3 f3 hU (Nat.le_of_eq hu) f4 hQ q1 f5 hV (Nat.le_refl _) ((Fr.refl _ _).alloc _) (by first | (simp; done) | (simp; omega))).alloc (.cells (bcell t p s u q w5.heap.size) 43)
  have hX : Boxes ((w5.alloc (.cells #[.slice none 0 0] 80)).alloc (.cells (bcell t p s u q w5.heap.size) 43)) x w.heap.size (w5.heap.size + 1) (w.heap.size + 1) t p s u q w5.heap.size :=
    ⟨by rw [heap_old _ _ (by simp; omega), heap_old _ _ (by omega)]; exact hwb, by rw [heap_alloc_if, if_pos (by simp)], by rw [heap_old _ _ (by simp; omega), heap_old _ _ (by omega)]; exact hrb⟩
  obtain ⟨r, hr⟩ : ∃ r, w5.heap.size = r := ⟨_, rfl⟩
  obtain ⟨bb, hbb⟩ : ∃ bb, r + 1 = bb := ⟨_, rfl⟩
  obtain ⟨wb, hwbn⟩ : ∃ wb, w.heap.size = wb := ⟨_, rfl⟩
  obtain ⟨rb, hrbn⟩ : ∃ rb, wb + 1 = rb := ⟨_, rfl⟩
  have hm : percentOf x.pct = m := HM.out
  obtain ⟨w6, hw6⟩ : ∃ w6, w6 = (w5.alloc (.cells #[.slice none 0 0] 80)).alloc (.cells (bcell t p s u q r) 43) := ⟨_, rfl⟩
  have hw6' := hw6
  unfold bcell at hw6'
  rw [hr, hbb, hwbn, hrbn]
  rw [← hw6']
  rw [hr] at hB hX
  rw [← hw6] at hB hX
  rw [hbb, hwbn, hrbn] at hX
  rw [hwbn, hrbn] at hB
  have hB6 : BothAt w w6 t p s u q r [wb, bb, rb] ⟨20, 100, 0, []⟩ (poolTo x 0) := by
    have e : (w5.alloc (.cells #[.slice none 0 0] 80)).heap.size = bb := by simp [hr, hbb]
    rw [e] at hB
    rw [poolTo, hm]
    exact hB.sub (by first | (simp; done) | (simp; omega))
  have HR := Lib.hid (show w.heap.size ≤ rb ∧ ¬ bb = rb ∧ ¬ rb = bb from by omega)
  clear A1 A2 A3 A4 A5 A6 hT t1 t2 t3 f1 hP p1 p2 f2 hS s1 s2 s3 f3 hU f4 hQ q1 f5 hF hwb hrb hB hm hw6' hw6 hV c1 lwb lrb hr hbb hu hwbn hrbn hn HM n0 n1
  go_loopw [30] (fun i wr => Rel1 w x wb bb rb t p s u q r i wr) (fun i _ => x.bk.n - (intOf i).toNat)
  case atStart => exact ⟨0, Nat.zero_le _, rfl, hB6, hX⟩
  case round =>
    clear hB6 hX
    obtain ⟨j, hj, rfl, hB, hX⟩ := hrel
    obtain ⟨⟨c1, c2, c3, c4, c5, c6, c7⟩, ⟨b0, b1, b2, b3, b4, b5⟩, lwb, lbb⟩ := hX.cells
    rw [HA.out.1] at c1
    rw [HA.out.2.1] at c2
    rw [HA.out.2.2.1] at c3
    rw [HA.out.2.2.2.1] at c4
    rw [HA.out.2.2.2.2.1] at c5
    rw [HA.out.2.2.2.2.2.1] at c6
    rw [HA.out.2.2.2.2.2.2] at c7
    by_cases hlt : j < x.bk.n
    · obtain ⟨e, he⟩ : ∃ e, x.bk.l[j]? = some e := ⟨x.bk.l[j]'(by rw [HX.out.bk.len]; exact hlt), List.getElem?_eq_getElem _⟩
      obtain ⟨gb, go, hga, hgc⟩ := HX.out.bk.one he
      obtain rfl : ab = some ⟨gb, go, none⟩ := HA.out.1.symm.trans hga
      obtain ⟨hgl, hgc⟩ := hgc _ hB.fr0
      have k0 : wr.cell? ⟨gb, go + j * 3, none⟩ = some (.int .i64 e.1) := hgc 0 _ rfl
      have k1 : wr.cell? ⟨gb, go + j * 3 + 1, none⟩ = some (.int .u32 e.2.1) := hgc 1 _ rfl
      have k2 : wr.cell? ⟨gb, go + j * 3 + 2, none⟩ = some (.int .i64 e.2.2) := hgc 2 _ rfl
      have j0 : (0 : Int) ≤ j := by omega
      have j1 : (j : Int) < x.bk.n := by omega
      have HE := Lib.hid he
      clear hgc he hga
      go_wp2_with fail
      refine (both_padd (hB.alloc _) e.1 e.2.1 e.2.2).mono ?_
      rintro en w1 ⟨⟨y1, rfl⟩, hBn, hT⟩
      have hXn := (hX.fr ((Fr.refl [] wr).alloc _)).kept hT (by simp) (by simp) (by simp)
      have hE := hT.at (heap_new wr _) (by simp)
      obtain ⟨xb, hxb⟩ : ∃ xb, wr.heap.size = xb := ⟨_, rfl⟩
      rw [hxb] at hBn hE ⊢
      clear hxb hB hX hT
      have hB := hBn
      have hX := hXn
      clear hBn hXn
      clear c1 c2 c3 c4 c5 c6 c7 b0 b1 b2 b3 b4 b5 lwb lbb
      obtain ⟨⟨c1, c2, c3, c4, c5, c6, c7⟩, ⟨b0, b1, b2, b3, b4, b5⟩, lwb, lbb⟩ := hX.cells
      rw [HA.out.1] at c1
      rw [HA.out.2.1] at c2
      rw [HA.out.2.2.1] at c3
      rw [HA.out.2.2.2.1] at c4
      rw [HA.out.2.2.2.2.1] at c5
      rw [HA.out.2.2.2.2.2.1] at c6
      rw [HA.out.2.2.2.2.2.2] at c7
      have lxb := lt_of hE
      obtain ⟨⟨d0, d1, d2⟩, _⟩ := backend_cells hE
      go_wp2_with fail
      refine (both_qadd hB e.1 e.2.1 e.2.2).mono ?_
      rintro en w2 ⟨⟨y2, rfl⟩, hBn, hT⟩
      have hXn := hX.kept hT (by simp) (by simp) (by simp)
      have hEn := hT.at hE (by simp)
      clear hB hX hE hT d0 d1 d2 lxb c1 c2 c3 c4 c5 c6 c7 b0 b1 b2 b3 b4 b5 lwb lbb
      have hB := hBn
      have hX := hXn
      have hE := hEn
      clear hBn hXn hEn
      obtain ⟨⟨c1, c2, c3, c4, c5, c6, c7⟩, ⟨b0, b1, b2, b3, b4, b5⟩, lwb, lbb⟩ := hX.cells
      rw [HA.out.1] at c1
      rw [HA.out.2.1] at c2
      rw [HA.out.2.2.1] at c3
      rw [HA.out.2.2.2.1] at c4
      rw [HA.out.2.2.2.2.1] at c5
      rw [HA.out.2.2.2.2.2.1] at c6
      rw [HA.out.2.2.2.2.2.2] at c7
      have lxb := lt_of hE
      obtain ⟨⟨d0, d1, d2⟩, _⟩ := backend_cells hE
      by_cases hU : j < x.up.n
      · obtain ⟨vU, hvU⟩ : ∃ v, x.up.l[j]? = some v := ⟨x.up.l[j]'(by rw [HX.out.up.len]; exact hU), List.getElem?_eq_getElem _⟩
        have jU : (j : Int) < x.up.n := by omega
        obtain ⟨uU, oU, ha, hc⟩ := HX.out.up.one hvU
        obtain rfl : au = some ⟨uU, oU, none⟩ := HA.out.2.1.symm.trans ha
        have HCU := Lib.hid hc
        have HVU := Lib.hid hvU
        clear ha hc hvU
        obtain ⟨hlU, hc⟩ := HCU.out _ hB.fr0
        have aU := hc 0 _ rfl
        simp only [Nat.mul_one, Nat.add_zero] at aU
        clear hc
        go_wp2
        refine wp_region_zed (P := Tryz.prog) (fun wz => Fr [] w2 wz) 9 (by kernel_rfl) ?_ (fun hS => ?_)
        · exact (Fr.refl [] _).drew
        refine wpAnyZ_take (i := 0) (oi := { dst := some 48, op := Go.Op.fieldAddr 43 (Go.Operand.tmp 4) 1, type := 0, pos := "law.go:50", after := #[], guard := none }) (v := _) rfl (by kernel_rfl) (by kernel_rfl) (by kernel_rfl) (by kernel_rfl) (by kernel_rfl) (fun _ _ _ h => h) (Or.inl ⟨by rfl, by (intro w' hSw; (try dsimp only at hSw); go_simp); (try (with_reducible rfl))⟩) (by assumption) ?_
        simp only [Act.put, List.setIfInBounds_toArray, List.set_cons_zero, List.set_cons_succ]
        refine wpAnyZ_take (i := 1) (oi := { dst := some 49, op := Go.Op.load 37 (Go.Operand.tmp 48), type := 37, pos := "law.go:50", after := #[{ on := 0, ground := Go.Ground.data }], guard := none }) (v := _) rfl (by kernel_rfl) (by kernel_rfl) (by kernel_rfl) (by kernel_rfl) (by kernel_rfl) (fun _ _ _ h => h) (Or.inl ⟨by rfl, by (intro w' hSw; have yb1 := (hSw.cell (a := ⟨bb, 1, none⟩) lbb (by simp)).trans b1; have yx0 := (hSw.cell (a := ⟨xb, 0, none⟩) lxb (by simp)).trans d0; have yw2 := (hSw.cell (a := ⟨wb, 2, none⟩) lwb (by simp)).trans c2; have yu := (hSw.cell (a := ⟨uU, oU + j, none⟩) hlU (by simp)).trans aU; (try dsimp only at hSw); go_simp); (try (with_reducible rfl))⟩) (by assumption) ?_
        simp only [Act.put, List.setIfInBounds_toArray, List.set_cons_zero, List.set_cons_succ]
        refine wpAnyZ_take (i := 2) (oi := { dst := some 50, op := Go.Op.fieldAddr 56 (Go.Operand.tmp 6) 0, type := 0, pos := "law.go:50", after := #[], guard := none }) (v := _) rfl (by kernel_rfl) (by kernel_rfl) (by kernel_rfl) (by kernel_rfl) (by kernel_rfl) (fun _ _ _ h => h) (Or.inl ⟨by rfl, by (intro w' hSw; (try dsimp only at hSw); go_simp); (try (with_reducible rfl))⟩) (by assumption) ?_
        simp only [Act.put, List.setIfInBounds_toArray, List.set_cons_zero, List.set_cons_succ]
        refine wpAnyZ_take (i := 3) (oi := { dst := some 51, op := Go.Op.load 3 (Go.Operand.tmp 50), type := 3, pos := "law.go:50", after := #[{ on := 2, ground := Go.Ground.data }], guard := none }) (v := _) rfl (by kernel_rfl) (by kernel_rfl) (by kernel_rfl) (by kernel_rfl) (by kernel_rfl) (fun _ _ _ h => h) (Or.inl ⟨by rfl, by (intro w' hSw; have yb1 := (hSw.cell (a := ⟨bb, 1, none⟩) lbb (by simp)).trans b1; have yx0 := (hSw.cell (a := ⟨xb, 0, none⟩) lxb (by simp)).trans d0; have yw2 := (hSw.cell (a := ⟨wb, 2, none⟩) lwb (by simp)).trans c2; have yu := (hSw.cell (a := ⟨uU, oU + j, none⟩) hlU (by simp)).trans aU; (try dsimp only at hSw); go_simp); (try (with_reducible rfl))⟩) (by assumption) ?_
        simp only [Act.put, List.setIfInBounds_toArray, List.set_cons_zero, List.set_cons_succ]
        refine wpAnyZ_take (i := 4) (oi := { dst := some 52, op := Go.Op.fieldAddr 28 (Go.Operand.tmp 1) 2, type := 0, pos := "law.go:50", after := #[], guard := none }) (v := _) rfl (by kernel_rfl) (by kernel_rfl) (by kernel_rfl) (by kernel_rfl) (by kernel_rfl) (fun _ _ _ h => h) (Or.inl ⟨by rfl, by (intro w' hSw; (try dsimp only at hSw); go_simp); (try (with_reducible rfl))⟩) (by assumption) ?_
        simp only [Act.put, List.setIfInBounds_toArray, List.set_cons_zero, List.set_cons_succ]
        refine wpAnyZ_take (i := 5) (oi := { dst := some 53, op := Go.Op.load 23 (Go.Operand.tmp 52), type := 23, pos := "law.go:50", after := #[{ on := 4, ground := Go.Ground.data }], guard := none }) (v := _) rfl (by kernel_rfl) (by kernel_rfl) (by kernel_rfl) (by kernel_rfl) (by kernel_rfl) (fun _ _ _ h => h) (Or.inl ⟨by rfl, by (intro w' hSw; have yb1 := (hSw.cell (a := ⟨bb, 1, none⟩) lbb (by simp)).trans b1; have yx0 := (hSw.cell (a := ⟨xb, 0, none⟩) lxb (by simp)).trans d0; have yw2 := (hSw.cell (a := ⟨wb, 2, none⟩) lwb (by simp)).trans c2; have yu := (hSw.cell (a := ⟨uU, oU + j, none⟩) hlU (by simp)).trans aU; (try dsimp only at hSw); go_simp); (try (with_reducible rfl))⟩) (by assumption) ?_
        simp only [Act.put, List.setIfInBounds_toArray, List.set_cons_zero, List.set_cons_succ]
        refine wpAnyZ_take (i := 6) (oi := { dst := some 54, op := Go.Op.move (Go.Operand.tmp 5), type := 3, pos := "law.go:50", after := #[], guard := none }) (v := _) rfl (by kernel_rfl) (by kernel_rfl) (by kernel_rfl) (by kernel_rfl) (by kernel_rfl) (fun _ _ _ h => h) (Or.inl ⟨by rfl, by (intro w' hSw; (try dsimp only at hSw); go_simp); (try (with_reducible rfl))⟩) (by assumption) ?_
        simp only [Act.put, List.setIfInBounds_toArray, List.set_cons_zero, List.set_cons_succ]
        refine wpAnyZ_take (i := 7) (oi := { dst := some 55, op := Go.Op.indexAddr 23 (Go.Operand.tmp 53) (Go.Operand.tmp 54), type := 0, pos := "law.go:50", after := #[{ on := 5, ground := Go.Ground.data }, { on := 6, ground := Go.Ground.data }], guard := none }) (v := _) rfl (by kernel_rfl) (by kernel_rfl) (by kernel_rfl) (by kernel_rfl) (by kernel_rfl) (fun _ _ _ h => h) (Or.inl ⟨by rfl, by (intro w' hSw; (try dsimp only at hSw); go_simp); (try (with_reducible rfl))⟩) (by assumption) ?_
        simp only [Act.put, List.setIfInBounds_toArray, List.set_cons_zero, List.set_cons_succ]
        refine wpAnyZ_take (i := 8) (oi := { dst := some 56, op := Go.Op.load 4 (Go.Operand.tmp 55), type := 4, pos := "law.go:50", after := #[{ on := 7, ground := Go.Ground.data }], guard := none }) (v := _) rfl (by kernel_rfl) (by kernel_rfl) (by kernel_rfl) (by kernel_rfl) (by kernel_rfl) (fun _ _ _ h => h) (Or.inl ⟨by rfl, by (intro w' hSw; have yb1 := (hSw.cell (a := ⟨bb, 1, none⟩) lbb (by simp)).trans b1; have yx0 := (hSw.cell (a := ⟨xb, 0, none⟩) lxb (by simp)).trans d0; have yw2 := (hSw.cell (a := ⟨wb, 2, none⟩) lwb (by simp)).trans c2; have yu := (hSw.cell (a := ⟨uU, oU + j, none⟩) hlU (by simp)).trans aU; (try dsimp only at hSw); go_simp); (try (with_reducible rfl))⟩) (by assumption) ?_
        simp only [Act.put, List.setIfInBounds_toArray, List.set_cons_zero, List.set_cons_succ]
        refine wpAnyZ_ready (rs := [9]) (by kernel_rfl) (by simp) ?_
        refine ZedOne.last (o := { dst := some 57, op := Go.Op.call { callee := Go.Callee.value (Go.Operand.func 20), args := #[Go.Operand.tmp 49, Go.Operand.tmp 51, Go.Operand.tmp 56], argTypes := #[37, 3, 4] }, type := 67, pos := "law.go:50", after := #[{ on := 1, ground := Go.Ground.data }, { on := 3, ground := Go.Ground.data }, { on := 8, ground := Go.Ground.data }], guard := none }) rfl (fun K hK => ?_)
        go_simp
        refine (both_mark hB.drew e.1 vU).mono ?_
        rintro en w3 ⟨⟨y3, rfl⟩, hBn, hT⟩
        dsimp only
        refine hK.out _ _ ?_
        clear hK K hS
        (try simp only [Act.put, List.setIfInBounds_toArray, List.set_cons_zero, List.set_cons_succ])
        refine wpAnyZ_done (by kernel_rfl) ?_ _
        rotate_left 1
        have hXn := hX.kept hT (by simp) (by simp) (by simp)
        have hEn := hT.at hE (by simp)
        clear hB hX hE hT d0 d1 d2 lxb c1 c2 c3 c4 c5 c6 c7 b0 b1 b2 b3 b4 b5 lwb lbb
        have hB := hBn
        have hX := hXn
        have hE := hEn
        clear hBn hXn hEn
        obtain ⟨⟨c1, c2, c3, c4, c5, c6, c7⟩, ⟨b0, b1, b2, b3, b4, b5⟩, lwb, lbb⟩ := hX.cells
        rw [HA.out.1] at c1
        rw [HA.out.2.1] at c2
        rw [HA.out.2.2.1] at c3
        rw [HA.out.2.2.2.1] at c4
        rw [HA.out.2.2.2.2.1] at c5
        rw [HA.out.2.2.2.2.2.1] at c6
        rw [HA.out.2.2.2.2.2.2] at c7
        have lxb := lt_of hE
        obtain ⟨⟨d0, d1, d2⟩, _⟩ := backend_cells hE
        clear aU hlU
        obtain ⟨hlU, hc⟩ := HCU.out _ hB.fr0
        have aU := hc 0 _ rfl
        simp only [Nat.mul_one, Nat.add_zero] at aU
        clear hc
        go_wp2
        refine wp_region_zed (P := Tryz.prog) (fun wz => Fr [] w3 wz) 9 (by kernel_rfl) ?_ (fun hS => ?_)
        · exact (Fr.refl [] _).drew
        refine wpAnyZ_take (i := 0) (oi := { dst := some 58, op := Go.Op.fieldAddr 43 (Go.Operand.tmp 4) 4, type := 0, pos := "law.go:51", after := #[], guard := none }) (v := _) rfl (by kernel_rfl) (by kernel_rfl) (by kernel_rfl) (by kernel_rfl) (by kernel_rfl) (fun _ _ _ h => h) (Or.inl ⟨by rfl, by (intro w' hSw; (try dsimp only at hSw); go_simp); (try (with_reducible rfl))⟩) (by assumption) ?_
        simp only [Act.put, List.setIfInBounds_toArray, List.set_cons_zero, List.set_cons_succ]
        refine wpAnyZ_take (i := 1) (oi := { dst := some 59, op := Go.Op.load 40 (Go.Operand.tmp 58), type := 40, pos := "law.go:51", after := #[{ on := 0, ground := Go.Ground.data }], guard := none }) (v := _) rfl (by kernel_rfl) (by kernel_rfl) (by kernel_rfl) (by kernel_rfl) (by kernel_rfl) (fun _ _ _ h => h) (Or.inl ⟨by rfl, by (intro w' hSw; have yb4 := (hSw.cell (a := ⟨bb, 4, none⟩) lbb (by simp)).trans b4; have yx0 := (hSw.cell (a := ⟨xb, 0, none⟩) lxb (by simp)).trans d0; have yw2 := (hSw.cell (a := ⟨wb, 2, none⟩) lwb (by simp)).trans c2; have yu := (hSw.cell (a := ⟨uU, oU + j, none⟩) hlU (by simp)).trans aU; (try dsimp only at hSw); go_simp); (try (with_reducible rfl))⟩) (by assumption) ?_
        simp only [Act.put, List.setIfInBounds_toArray, List.set_cons_zero, List.set_cons_succ]
        refine wpAnyZ_take (i := 2) (oi := { dst := some 60, op := Go.Op.fieldAddr 56 (Go.Operand.tmp 6) 0, type := 0, pos := "law.go:51", after := #[], guard := none }) (v := _) rfl (by kernel_rfl) (by kernel_rfl) (by kernel_rfl) (by kernel_rfl) (by kernel_rfl) (fun _ _ _ h => h) (Or.inl ⟨by rfl, by (intro w' hSw; (try dsimp only at hSw); go_simp); (try (with_reducible rfl))⟩) (by assumption) ?_
        simp only [Act.put, List.setIfInBounds_toArray, List.set_cons_zero, List.set_cons_succ]
        refine wpAnyZ_take (i := 3) (oi := { dst := some 61, op := Go.Op.load 3 (Go.Operand.tmp 60), type := 3, pos := "law.go:51", after := #[{ on := 2, ground := Go.Ground.data }], guard := none }) (v := _) rfl (by kernel_rfl) (by kernel_rfl) (by kernel_rfl) (by kernel_rfl) (by kernel_rfl) (fun _ _ _ h => h) (Or.inl ⟨by rfl, by (intro w' hSw; have yb4 := (hSw.cell (a := ⟨bb, 4, none⟩) lbb (by simp)).trans b4; have yx0 := (hSw.cell (a := ⟨xb, 0, none⟩) lxb (by simp)).trans d0; have yw2 := (hSw.cell (a := ⟨wb, 2, none⟩) lwb (by simp)).trans c2; have yu := (hSw.cell (a := ⟨uU, oU + j, none⟩) hlU (by simp)).trans aU; (try dsimp only at hSw); go_simp); (try (with_reducible rfl))⟩) (by assumption) ?_
        simp only [Act.put, List.setIfInBounds_toArray, List.set_cons_zero, List.set_cons_succ]
        refine wpAnyZ_take (i := 4) (oi := { dst := some 62, op := Go.Op.fieldAddr 28 (Go.Operand.tmp 1) 2, type := 0, pos := "law.go:51", after := #[], guard := none }) (v := _) rfl (by kernel_rfl) (by kernel_rfl) (by kernel_rfl) (by kernel_rfl) (by kernel_rfl) (fun _ _ _ h => h) (Or.inl ⟨by rfl, by (intro w' hSw; (try dsimp only at hSw); go_simp); (try (with_reducible rfl))⟩) (by assumption) ?_
        simp only [Act.put, List.setIfInBounds_toArray, List.set_cons_zero, List.set_cons_succ]
        refine wpAnyZ_take (i := 5) (oi := { dst := some 63, op := Go.Op.load 23 (Go.Operand.tmp 62), type := 23, pos := "law.go:51", after := #[{ on := 4, ground := Go.Ground.data }], guard := none }) (v := _) rfl (by kernel_rfl) (by kernel_rfl) (by kernel_rfl) (by kernel_rfl) (by kernel_rfl) (fun _ _ _ h => h) (Or.inl ⟨by rfl, by (intro w' hSw; have yb4 := (hSw.cell (a := ⟨bb, 4, none⟩) lbb (by simp)).trans b4; have yx0 := (hSw.cell (a := ⟨xb, 0, none⟩) lxb (by simp)).trans d0; have yw2 := (hSw.cell (a := ⟨wb, 2, none⟩) lwb (by simp)).trans c2; have yu := (hSw.cell (a := ⟨uU, oU + j, none⟩) hlU (by simp)).trans aU; (try dsimp only at hSw); go_simp); (try (with_reducible rfl))⟩) (by assumption) ?_
        simp only [Act.put, List.setIfInBounds_toArray, List.set_cons_zero, List.set_cons_succ]
        refine wpAnyZ_take (i := 6) (oi := { dst := some 64, op := Go.Op.move (Go.Operand.tmp 5), type := 3, pos := "law.go:51", after := #[], guard := none }) (v := _) rfl (by kernel_rfl) (by kernel_rfl) (by kernel_rfl) (by kernel_rfl) (by kernel_rfl) (fun _ _ _ h => h) (Or.inl ⟨by rfl, by (intro w' hSw; (try dsimp only at hSw); go_simp); (try (with_reducible rfl))⟩) (by assumption) ?_
        simp only [Act.put, List.setIfInBounds_toArray, List.set_cons_zero, List.set_cons_succ]
        refine wpAnyZ_take (i := 7) (oi := { dst := some 65, op := Go.Op.indexAddr 23 (Go.Operand.tmp 63) (Go.Operand.tmp 64), type := 0, pos := "law.go:51", after := #[{ on := 5, ground := Go.Ground.data }, { on := 6, ground := Go.Ground.data }], guard := none }) (v := _) rfl (by kernel_rfl) (by kernel_rfl) (by kernel_rfl) (by kernel_rfl) (by kernel_rfl) (fun _ _ _ h => h) (Or.inl ⟨by rfl, by (intro w' hSw; (try dsimp only at hSw); go_simp); (try (with_reducible rfl))⟩) (by assumption) ?_
        simp only [Act.put, List.setIfInBounds_toArray, List.set_cons_zero, List.set_cons_succ]
        refine wpAnyZ_take (i := 8) (oi := { dst := some 66, op := Go.Op.load 4 (Go.Operand.tmp 65), type := 4, pos := "law.go:51", after := #[{ on := 7, ground := Go.Ground.data }], guard := none }) (v := _) rfl (by kernel_rfl) (by kernel_rfl) (by kernel_rfl) (by kernel_rfl) (by kernel_rfl) (fun _ _ _ h => h) (Or.inl ⟨by rfl, by (intro w' hSw; have yb4 := (hSw.cell (a := ⟨bb, 4, none⟩) lbb (by simp)).trans b4; have yx0 := (hSw.cell (a := ⟨xb, 0, none⟩) lxb (by simp)).trans d0; have yw2 := (hSw.cell (a := ⟨wb, 2, none⟩) lwb (by simp)).trans c2; have yu := (hSw.cell (a := ⟨uU, oU + j, none⟩) hlU (by simp)).trans aU; (try dsimp only at hSw); go_simp); (try (with_reducible rfl))⟩) (by assumption) ?_
        simp only [Act.put, List.setIfInBounds_toArray, List.set_cons_zero, List.set_cons_succ]
        refine wpAnyZ_ready (rs := [9]) (by kernel_rfl) (by simp) ?_
        refine ZedOne.last (o := { dst := some 67, op := Go.Op.call { callee := Go.Callee.value (Go.Operand.func 29), args := #[Go.Operand.tmp 59, Go.Operand.tmp 61, Go.Operand.tmp 66], argTypes := #[40, 3, 4] }, type := 3, pos := "law.go:51", after := #[{ on := 1, ground := Go.Ground.data }, { on := 3, ground := Go.Ground.data }, { on := 8, ground := Go.Ground.data }], guard := none }) rfl (fun K hK => ?_)
        go_simp
        refine (both_qmark hB.drew e.1 vU).mono ?_
        rintro en w4 ⟨⟨y4, rfl⟩, hBn, hT⟩
        dsimp only
        refine hK.out _ _ ?_
        clear hK K hS
        (try simp only [Act.put, List.setIfInBounds_toArray, List.set_cons_zero, List.set_cons_succ])
        refine wpAnyZ_done (by kernel_rfl) ?_ _
        rotate_left 1
        have hXn := hX.kept hT (by simp) (by simp) (by simp)
        have hEn := hT.at hE (by simp)
        clear hB hX hE hT d0 d1 d2 lxb c1 c2 c3 c4 c5 c6 c7 b0 b1 b2 b3 b4 b5 lwb lbb
        have hB := hBn
        have hX := hXn
        have hE := hEn
        clear hBn hXn hEn
        obtain ⟨⟨c1, c2, c3, c4, c5, c6, c7⟩, ⟨b0, b1, b2, b3, b4, b5⟩, lwb, lbb⟩ := hX.cells
        rw [HA.out.1] at c1
        rw [HA.out.2.1] at c2
        rw [HA.out.2.2.1] at c3
        rw [HA.out.2.2.2.1] at c4
        rw [HA.out.2.2.2.2.1] at c5
        rw [HA.out.2.2.2.2.2.1] at c6
        rw [HA.out.2.2.2.2.2.2] at c7
        have lxb := lt_of hE
        obtain ⟨⟨d0, d1, d2⟩, _⟩ := backend_cells hE
        clear aU hlU
        by_cases hD : j < x.dr.n
        · obtain ⟨vD, hvD⟩ : ∃ v, x.dr.l[j]? = some v := ⟨x.dr.l[j]'(by rw [HX.out.dr.len]; exact hD), List.getElem?_eq_getElem _⟩
          have jD : (j : Int) < x.dr.n := by omega
          obtain ⟨uD, oD, ha, hc⟩ := HX.out.dr.one hvD
          obtain rfl : ad = some ⟨uD, oD, none⟩ := HA.out.2.2.1.symm.trans ha
          have HCD := Lib.hid hc
          have HVD := Lib.hid hvD
          clear ha hc hvD
          obtain ⟨hlD, hc⟩ := HCD.out _ hB.fr0
          have aD := hc 0 _ rfl
          simp only [Nat.mul_one, Nat.add_zero] at aD
          clear hc
          go_wp2
          refine wp_region_zed (P := Tryz.prog) (fun wz => Fr [] w4 wz) 9 (by kernel_rfl) ?_ (fun hS => ?_)
          · exact (Fr.refl [] _).drew
          refine wpAnyZ_take (i := 0) (oi := { dst := some 73, op := Go.Op.fieldAddr 43 (Go.Operand.tmp 4) 1, type := 0, pos := "law.go:54", after := #[], guard := none }) (v := _) rfl (by kernel_rfl) (by kernel_rfl) (by kernel_rfl) (by kernel_rfl) (by kernel_rfl) (fun _ _ _ h => h) (Or.inl ⟨by rfl, by (intro w' hSw; (try dsimp only at hSw); go_simp); (try (with_reducible rfl))⟩) (by assumption) ?_
          simp only [Act.put, List.setIfInBounds_toArray, List.set_cons_zero, List.set_cons_succ]
          refine wpAnyZ_take (i := 1) (oi := { dst := some 74, op := Go.Op.load 37 (Go.Operand.tmp 73), type := 37, pos := "law.go:54", after := #[{ on := 0, ground := Go.Ground.data }], guard := none }) (v := _) rfl (by kernel_rfl) (by kernel_rfl) (by kernel_rfl) (by kernel_rfl) (by kernel_rfl) (fun _ _ _ h => h) (Or.inl ⟨by rfl, by (intro w' hSw; have yb1 := (hSw.cell (a := ⟨bb, 1, none⟩) lbb (by simp)).trans b1; have yx0 := (hSw.cell (a := ⟨xb, 0, none⟩) lxb (by simp)).trans d0; have yw3 := (hSw.cell (a := ⟨wb, 3, none⟩) lwb (by simp)).trans c3; have yu := (hSw.cell (a := ⟨uD, oD + j, none⟩) hlD (by simp)).trans aD; (try dsimp only at hSw); go_simp); (try (with_reducible rfl))⟩) (by assumption) ?_
          simp only [Act.put, List.setIfInBounds_toArray, List.set_cons_zero, List.set_cons_succ]
          refine wpAnyZ_take (i := 2) (oi := { dst := some 75, op := Go.Op.fieldAddr 56 (Go.Operand.tmp 6) 0, type := 0, pos := "law.go:54", after := #[], guard := none }) (v := _) rfl (by kernel_rfl) (by kernel_rfl) (by kernel_rfl) (by kernel_rfl) (by kernel_rfl) (fun _ _ _ h => h) (Or.inl ⟨by rfl, by (intro w' hSw; (try dsimp only at hSw); go_simp); (try (with_reducible rfl))⟩) (by assumption) ?_
          simp only [Act.put, List.setIfInBounds_toArray, List.set_cons_zero, List.set_cons_succ]
          refine wpAnyZ_take (i := 3) (oi := { dst := some 76, op := Go.Op.load 3 (Go.Operand.tmp 75), type := 3, pos := "law.go:54", after := #[{ on := 2, ground := Go.Ground.data }], guard := none }) (v := _) rfl (by kernel_rfl) (by kernel_rfl) (by kernel_rfl) (by kernel_rfl) (by kernel_rfl) (fun _ _ _ h => h) (Or.inl ⟨by rfl, by (intro w' hSw; have yb1 := (hSw.cell (a := ⟨bb, 1, none⟩) lbb (by simp)).trans b1; have yx0 := (hSw.cell (a := ⟨xb, 0, none⟩) lxb (by simp)).trans d0; have yw3 := (hSw.cell (a := ⟨wb, 3, none⟩) lwb (by simp)).trans c3; have yu := (hSw.cell (a := ⟨uD, oD + j, none⟩) hlD (by simp)).trans aD; (try dsimp only at hSw); go_simp); (try (with_reducible rfl))⟩) (by assumption) ?_
          simp only [Act.put, List.setIfInBounds_toArray, List.set_cons_zero, List.set_cons_succ]
          refine wpAnyZ_take (i := 4) (oi := { dst := some 77, op := Go.Op.fieldAddr 28 (Go.Operand.tmp 1) 3, type := 0, pos := "law.go:54", after := #[], guard := none }) (v := _) rfl (by kernel_rfl) (by kernel_rfl) (by kernel_rfl) (by kernel_rfl) (by kernel_rfl) (fun _ _ _ h => h) (Or.inl ⟨by rfl, by (intro w' hSw; (try dsimp only at hSw); go_simp); (try (with_reducible rfl))⟩) (by assumption) ?_
          simp only [Act.put, List.setIfInBounds_toArray, List.set_cons_zero, List.set_cons_succ]
          refine wpAnyZ_take (i := 5) (oi := { dst := some 78, op := Go.Op.load 23 (Go.Operand.tmp 77), type := 23, pos := "law.go:54", after := #[{ on := 4, ground := Go.Ground.data }], guard := none }) (v := _) rfl (by kernel_rfl) (by kernel_rfl) (by kernel_rfl) (by kernel_rfl) (by kernel_rfl) (fun _ _ _ h => h) (Or.inl ⟨by rfl, by (intro w' hSw; have yb1 := (hSw.cell (a := ⟨bb, 1, none⟩) lbb (by simp)).trans b1; have yx0 := (hSw.cell (a := ⟨xb, 0, none⟩) lxb (by simp)).trans d0; have yw3 := (hSw.cell (a := ⟨wb, 3, none⟩) lwb (by simp)).trans c3; have yu := (hSw.cell (a := ⟨uD, oD + j, none⟩) hlD (by simp)).trans aD; (try dsimp only at hSw); go_simp); (try (with_reducible rfl))⟩) (by assumption) ?_
          simp only [Act.put, List.setIfInBounds_toArray, List.set_cons_zero, List.set_cons_succ]
          refine wpAnyZ_take (i := 6) (oi := { dst := some 79, op := Go.Op.move (Go.Operand.tmp 5), type := 3, pos := "law.go:54", after := #[], guard := none }) (v := _) rfl (by kernel_rfl) (by kernel_rfl) (by kernel_rfl) (by kernel_rfl) (by kernel_rfl) (fun _ _ _ h => h) (Or.inl ⟨by rfl, by (intro w' hSw; (try dsimp only at hSw); go_simp); (try (with_reducible rfl))⟩) (by assumption) ?_
          simp only [Act.put, List.setIfInBounds_toArray, List.set_cons_zero, List.set_cons_succ]
          refine wpAnyZ_take (i := 7) (oi := { dst := some 80, op := Go.Op.indexAddr 23 (Go.Operand.tmp 78) (Go.Operand.tmp 79), type := 0, pos := "law.go:54", after := #[{ on := 5, ground := Go.Ground.data }, { on := 6, ground := Go.Ground.data }], guard := none }) (v := _) rfl (by kernel_rfl) (by kernel_rfl) (by kernel_rfl) (by kernel_rfl) (by kernel_rfl) (fun _ _ _ h => h) (Or.inl ⟨by rfl, by (intro w' hSw; (try dsimp only at hSw); go_simp); (try (with_reducible rfl))⟩) (by assumption) ?_
          simp only [Act.put, List.setIfInBounds_toArray, List.set_cons_zero, List.set_cons_succ]
          refine wpAnyZ_take (i := 8) (oi := { dst := some 81, op := Go.Op.load 4 (Go.Operand.tmp 80), type := 4, pos := "law.go:54", after := #[{ on := 7, ground := Go.Ground.data }], guard := none }) (v := _) rfl (by kernel_rfl) (by kernel_rfl) (by kernel_rfl) (by kernel_rfl) (by kernel_rfl) (fun _ _ _ h => h) (Or.inl ⟨by rfl, by (intro w' hSw; have yb1 := (hSw.cell (a := ⟨bb, 1, none⟩) lbb (by simp)).trans b1; have yx0 := (hSw.cell (a := ⟨xb, 0, none⟩) lxb (by simp)).trans d0; have yw3 := (hSw.cell (a := ⟨wb, 3, none⟩) lwb (by simp)).trans c3; have yu := (hSw.cell (a := ⟨uD, oD + j, none⟩) hlD (by simp)).trans aD; (try dsimp only at hSw); go_simp); (try (with_reducible rfl))⟩) (by assumption) ?_
          simp only [Act.put, List.setIfInBounds_toArray, List.set_cons_zero, List.set_cons_succ]
          refine wpAnyZ_ready (rs := [9]) (by kernel_rfl) (by simp) ?_
          refine ZedOne.last (o := { dst := some 82, op := Go.Op.call { callee := Go.Callee.value (Go.Operand.func 18), args := #[Go.Operand.tmp 74, Go.Operand.tmp 76, Go.Operand.tmp 81], argTypes := #[37, 3, 4] }, type := 67, pos := "law.go:54", after := #[{ on := 1, ground := Go.Ground.data }, { on := 3, ground := Go.Ground.data }, { on := 8, ground := Go.Ground.data }], guard := none }) rfl (fun K hK => ?_)
          go_simp
          refine (both_drain hB.drew e.1 vD).mono ?_
          rintro en w5 ⟨⟨y5, rfl⟩, hBn, hT⟩
          dsimp only
          refine hK.out _ _ ?_
          clear hK K hS
          (try simp only [Act.put, List.setIfInBounds_toArray, List.set_cons_zero, List.set_cons_succ])
          refine wpAnyZ_done (by kernel_rfl) ?_ _
          rotate_left 1
          have hXn := hX.kept hT (by simp) (by simp) (by simp)
          have hEn := hT.at hE (by simp)
          clear hB hX hE hT d0 d1 d2 lxb c1 c2 c3 c4 c5 c6 c7 b0 b1 b2 b3 b4 b5 lwb lbb
          have hB := hBn
          have hX := hXn
          have hE := hEn
          clear hBn hXn hEn
          obtain ⟨⟨c1, c2, c3, c4, c5, c6, c7⟩, ⟨b0, b1, b2, b3, b4, b5⟩, lwb, lbb⟩ := hX.cells
          rw [HA.out.1] at c1
          rw [HA.out.2.1] at c2
          rw [HA.out.2.2.1] at c3
          rw [HA.out.2.2.2.1] at c4
          rw [HA.out.2.2.2.2.1] at c5
          rw [HA.out.2.2.2.2.2.1] at c6
          rw [HA.out.2.2.2.2.2.2] at c7
          have lxb := lt_of hE
          obtain ⟨⟨d0, d1, d2⟩, _⟩ := backend_cells hE
          clear aD hlD
          obtain ⟨hlD, hc⟩ := HCD.out _ hB.fr0
          have aD := hc 0 _ rfl
          simp only [Nat.mul_one, Nat.add_zero] at aD
          clear hc
          go_wp2
          refine wp_region_zed (P := Tryz.prog) (fun wz => Fr [] w5 wz) 9 (by kernel_rfl) ?_ (fun hS => ?_)
          · exact (Fr.refl [] _).drew
          refine wpAnyZ_take (i := 0) (oi := { dst := some 83, op := Go.Op.fieldAddr 43 (Go.Operand.tmp 4) 4, type := 0, pos := "law.go:55", after := #[], guard := none }) (v := _) rfl (by kernel_rfl) (by kernel_rfl) (by kernel_rfl) (by kernel_rfl) (by kernel_rfl) (fun _ _ _ h => h) (Or.inl ⟨by rfl, by (intro w' hSw; (try dsimp only at hSw); go_simp); (try (with_reducible rfl))⟩) (by assumption) ?_
          simp only [Act.put, List.setIfInBounds_toArray, List.set_cons_zero, List.set_cons_succ]
          refine wpAnyZ_take (i := 1) (oi := { dst := some 84, op := Go.Op.load 40 (Go.Operand.tmp 83), type := 40, pos := "law.go:55", after := #[{ on := 0, ground := Go.Ground.data }], guard := none }) (v := _) rfl (by kernel_rfl) (by kernel_rfl) (by kernel_rfl) (by kernel_rfl) (by kernel_rfl) (fun _ _ _ h => h) (Or.inl ⟨by rfl, by (intro w' hSw; have yb4 := (hSw.cell (a := ⟨bb, 4, none⟩) lbb (by simp)).trans b4; have yx0 := (hSw.cell (a := ⟨xb, 0, none⟩) lxb (by simp)).trans d0; have yw3 := (hSw.cell (a := ⟨wb, 3, none⟩) lwb (by simp)).trans c3; have yu := (hSw.cell (a := ⟨uD, oD + j, none⟩) hlD (by simp)).trans aD; (try dsimp only at hSw); go_simp); (try (with_reducible rfl))⟩) (by assumption) ?_
          simp only [Act.put, List.setIfInBounds_toArray, List.set_cons_zero, List.set_cons_succ]
          refine wpAnyZ_take (i := 2) (oi := { dst := some 85, op := Go.Op.fieldAddr 56 (Go.Operand.tmp 6) 0, type := 0, pos := "law.go:55", after := #[], guard := none }) (v := _) rfl (by kernel_rfl) (by kernel_rfl) (by kernel_rfl) (by kernel_rfl) (by kernel_rfl) (fun _ _ _ h => h) (Or.inl ⟨by rfl, by (intro w' hSw; (try dsimp only at hSw); go_simp); (try (with_reducible rfl))⟩) (by assumption) ?_
          simp only [Act.put, List.setIfInBounds_toArray, List.set_cons_zero, List.set_cons_succ]
          refine wpAnyZ_take (i := 3) (oi := { dst := some 86, op := Go.Op.load 3 (Go.Operand.tmp 85), type := 3, pos := "law.go:55", after := #[{ on := 2, ground := Go.Ground.data }], guard := none }) (v := _) rfl (by kernel_rfl) (by kernel_rfl) (by kernel_rfl) (by kernel_rfl) (by kernel_rfl) (fun _ _ _ h => h) (Or.inl ⟨by rfl, by (intro w' hSw; have yb4 := (hSw.cell (a := ⟨bb, 4, none⟩) lbb (by simp)).trans b4; have yx0 := (hSw.cell (a := ⟨xb, 0, none⟩) lxb (by simp)).trans d0; have yw3 := (hSw.cell (a := ⟨wb, 3, none⟩) lwb (by simp)).trans c3; have yu := (hSw.cell (a := ⟨uD, oD + j, none⟩) hlD (by simp)).trans aD; (try dsimp only at hSw); go_simp); (try (with_reducible rfl))⟩) (by assumption) ?_
          simp only [Act.put, List.setIfInBounds_toArray, List.set_cons_zero, List.set_cons_succ]
          refine wpAnyZ_take (i := 4) (oi := { dst := some 87, op := Go.Op.fieldAddr 28 (Go.Operand.tmp 1) 3, type := 0, pos := "law.go:55", after := #[], guard := none }) (v := _) rfl (by kernel_rfl) (by kernel_rfl) (by kernel_rfl) (by kernel_rfl) (by kernel_rfl) (fun _ _ _ h => h) (Or.inl ⟨by rfl, by (intro w' hSw; (try dsimp only at hSw); go_simp); (try (with_reducible rfl))⟩) (by assumption) ?_
          simp only [Act.put, List.setIfInBounds_toArray, List.set_cons_zero, List.set_cons_succ]
          refine wpAnyZ_take (i := 5) (oi := { dst := some 88, op := Go.Op.load 23 (Go.Operand.tmp 87), type := 23, pos := "law.go:55", after := #[{ on := 4, ground := Go.Ground.data }], guard := none }) (v := _) rfl (by kernel_rfl) (by kernel_rfl) (by kernel_rfl) (by kernel_rfl) (by kernel_rfl) (fun _ _ _ h => h) (Or.inl ⟨by rfl, by (intro w' hSw; have yb4 := (hSw.cell (a := ⟨bb, 4, none⟩) lbb (by simp)).trans b4; have yx0 := (hSw.cell (a := ⟨xb, 0, none⟩) lxb (by simp)).trans d0; have yw3 := (hSw.cell (a := ⟨wb, 3, none⟩) lwb (by simp)).trans c3; have yu := (hSw.cell (a := ⟨uD, oD + j, none⟩) hlD (by simp)).trans aD; (try dsimp only at hSw); go_simp); (try (with_reducible rfl))⟩) (by assumption) ?_
          simp only [Act.put, List.setIfInBounds_toArray, List.set_cons_zero, List.set_cons_succ]
          refine wpAnyZ_take (i := 6) (oi := { dst := some 89, op := Go.Op.move (Go.Operand.tmp 5), type := 3, pos := "law.go:55", after := #[], guard := none }) (v := _) rfl (by kernel_rfl) (by kernel_rfl) (by kernel_rfl) (by kernel_rfl) (by kernel_rfl) (fun _ _ _ h => h) (Or.inl ⟨by rfl, by (intro w' hSw; (try dsimp only at hSw); go_simp); (try (with_reducible rfl))⟩) (by assumption) ?_
          simp only [Act.put, List.setIfInBounds_toArray, List.set_cons_zero, List.set_cons_succ]
          refine wpAnyZ_take (i := 7) (oi := { dst := some 90, op := Go.Op.indexAddr 23 (Go.Operand.tmp 88) (Go.Operand.tmp 89), type := 0, pos := "law.go:55", after := #[{ on := 5, ground := Go.Ground.data }, { on := 6, ground := Go.Ground.data }], guard := none }) (v := _) rfl (by kernel_rfl) (by kernel_rfl) (by kernel_rfl) (by kernel_rfl) (by kernel_rfl) (fun _ _ _ h => h) (Or.inl ⟨by rfl, by (intro w' hSw; (try dsimp only at hSw); go_simp); (try (with_reducible rfl))⟩) (by assumption) ?_
          simp only [Act.put, List.setIfInBounds_toArray, List.set_cons_zero, List.set_cons_succ]
          refine wpAnyZ_take (i := 8) (oi := { dst := some 91, op := Go.Op.load 4 (Go.Operand.tmp 90), type := 4, pos := "law.go:55", after := #[{ on := 7, ground := Go.Ground.data }], guard := none }) (v := _) rfl (by kernel_rfl) (by kernel_rfl) (by kernel_rfl) (by kernel_rfl) (by kernel_rfl) (fun _ _ _ h => h) (Or.inl ⟨by rfl, by (intro w' hSw; have yb4 := (hSw.cell (a := ⟨bb, 4, none⟩) lbb (by simp)).trans b4; have yx0 := (hSw.cell (a := ⟨xb, 0, none⟩) lxb (by simp)).trans d0; have yw3 := (hSw.cell (a := ⟨wb, 3, none⟩) lwb (by simp)).trans c3; have yu := (hSw.cell (a := ⟨uD, oD + j, none⟩) hlD (by simp)).trans aD; (try dsimp only at hSw); go_simp); (try (with_reducible rfl))⟩) (by assumption) ?_
          simp only [Act.put, List.setIfInBounds_toArray, List.set_cons_zero, List.set_cons_succ]
          refine wpAnyZ_ready (rs := [9]) (by kernel_rfl) (by simp) ?_
          refine ZedOne.last (o := { dst := some 92, op := Go.Op.call { callee := Go.Callee.value (Go.Operand.func 30), args := #[Go.Operand.tmp 84, Go.Operand.tmp 86, Go.Operand.tmp 91], argTypes := #[40, 3, 4] }, type := 3, pos := "law.go:55", after := #[{ on := 1, ground := Go.Ground.data }, { on := 3, ground := Go.Ground.data }, { on := 8, ground := Go.Ground.data }], guard := none }) rfl (fun K hK => ?_)
          go_simp
          refine (both_qdrain hB.drew e.1 vD).mono ?_
          rintro en w6 ⟨⟨y6, rfl⟩, hBn, hT⟩
          dsimp only
          refine hK.out _ _ ?_
          clear hK K hS
          (try simp only [Act.put, List.setIfInBounds_toArray, List.set_cons_zero, List.set_cons_succ])
          refine wpAnyZ_done (by kernel_rfl) ?_ _
          rotate_left 1
          have hXn := hX.kept hT (by simp) (by simp) (by simp)
          have hEn := hT.at hE (by simp)
          clear hB hX hE hT d0 d1 d2 lxb c1 c2 c3 c4 c5 c6 c7 b0 b1 b2 b3 b4 b5 lwb lbb
          have hB := hBn
          have hX := hXn
          have hE := hEn
          clear hBn hXn hEn
          obtain ⟨⟨c1, c2, c3, c4, c5, c6, c7⟩, ⟨b0, b1, b2, b3, b4, b5⟩, lwb, lbb⟩ := hX.cells
          rw [HA.out.1] at c1
          rw [HA.out.2.1] at c2
          rw [HA.out.2.2.1] at c3
          rw [HA.out.2.2.2.1] at c4
          rw [HA.out.2.2.2.2.1] at c5
          rw [HA.out.2.2.2.2.2.1] at c6
          rw [HA.out.2.2.2.2.2.2] at c7
          have lxb := lt_of hE
          obtain ⟨⟨d0, d1, d2⟩, _⟩ := backend_cells hE
          clear aD hlD
          go_wp2
          have hPj : poolTo x (j + 1) = pchange (pchange (padd (poolTo x j) e.1 e.2.1 e.2.2) e.1 (fun m => { m with up := vU })) e.1 (fun m => { m with drain := vD }) := by
            simp only [poolTo, HE.out, poolStep, HVU.out, HVD.out]
          refine ⟨⟨j + 1, ?_, ?_, ?_, ?_⟩, ?_⟩
          · omega
          · go_num
          · rw [hPj]
            exact hB.sub (by simp)
          · exact hX
          · simp [intOf]
            omega
        · have hnD : x.dr.l[j]? = none := List.getElem?_eq_none (by rw [HX.out.dr.len]; omega)
          go_wp2
          have hPj : poolTo x (j + 1) = pchange (padd (poolTo x j) e.1 e.2.1 e.2.2) e.1 (fun m => { m with up := vU }) := by
            simp only [poolTo, HE.out, poolStep, HVU.out, hnD]
          refine ⟨⟨j + 1, ?_, ?_, ?_, ?_⟩, ?_⟩
          · omega
          · go_num
          · rw [hPj]
            exact hB.sub (by simp)
          · exact hX
          · simp [intOf]
            omega
      · have hnU : x.up.l[j]? = none := List.getElem?_eq_none (by rw [HX.out.up.len]; omega)
        by_cases hD : j < x.dr.n
        · obtain ⟨vD, hvD⟩ : ∃ v, x.dr.l[j]? = some v := ⟨x.dr.l[j]'(by rw [HX.out.dr.len]; exact hD), List.getElem?_eq_getElem _⟩
          have jD : (j : Int) < x.dr.n := by omega
          obtain ⟨uD, oD, ha, hc⟩ := HX.out.dr.one hvD
          obtain rfl : ad = some ⟨uD, oD, none⟩ := HA.out.2.2.1.symm.trans ha
          have HCD := Lib.hid hc
          have HVD := Lib.hid hvD
          clear ha hc hvD
          obtain ⟨hlD, hc⟩ := HCD.out _ hB.fr0
          have aD := hc 0 _ rfl
          simp only [Nat.mul_one, Nat.add_zero] at aD
          clear hc
          go_wp2
          refine wp_region_zed (P := Tryz.prog) (fun wz => Fr [] w2 wz) 9 (by kernel_rfl) ?_ (fun hS => ?_)
          · exact (Fr.refl [] _).drew
          refine wpAnyZ_take (i := 0) (oi := { dst := some 73, op := Go.Op.fieldAddr 43 (Go.Operand.tmp 4) 1, type := 0, pos := "law.go:54", after := #[], guard := none }) (v := _) rfl (by kernel_rfl) (by kernel_rfl) (by kernel_rfl) (by kernel_rfl) (by kernel_rfl) (fun _ _ _ h => h) (Or.inl ⟨by rfl, by (intro w' hSw; (try dsimp only at hSw); go_simp); (try (with_reducible rfl))⟩) (by assumption) ?_
          simp only [Act.put, List.setIfInBounds_toArray, List.set_cons_zero, List.set_cons_succ]
          refine wpAnyZ_take (i := 1) (oi := { dst := some 74, op := Go.Op.load 37 (Go.Operand.tmp 73), type := 37, pos := "law.go:54", after := #[{ on := 0, ground := Go.Ground.data }], guard := none }) (v := _) rfl (by kernel_rfl) (by kernel_rfl) (by kernel_rfl) (by kernel_rfl) (by kernel_rfl) (fun _ _ _ h => h) (Or.inl ⟨by rfl, by (intro w' hSw; have yb1 := (hSw.cell (a := ⟨bb, 1, none⟩) lbb (by simp)).trans b1; have yx0 := (hSw.cell (a := ⟨xb, 0, none⟩) lxb (by simp)).trans d0; have yw3 := (hSw.cell (a := ⟨wb, 3, none⟩) lwb (by simp)).trans c3; have yu := (hSw.cell (a := ⟨uD, oD + j, none⟩) hlD (by simp)).trans aD; (try dsimp only at hSw); go_simp); (try (with_reducible rfl))⟩) (by assumption) ?_
          simp only [Act.put, List.setIfInBounds_toArray, List.set_cons_zero, List.set_cons_succ]
          refine wpAnyZ_take (i := 2) (oi := { dst := some 75, op := Go.Op.fieldAddr 56 (Go.Operand.tmp 6) 0, type := 0, pos := "law.go:54", after := #[], guard := none }) (v := _) rfl (by kernel_rfl) (by kernel_rfl) (by kernel_rfl) (by kernel_rfl) (by kernel_rfl) (fun _ _ _ h => h) (Or.inl ⟨by rfl, by (intro w' hSw; (try dsimp only at hSw); go_simp); (try (with_reducible rfl))⟩) (by assumption) ?_
          simp only [Act.put, List.setIfInBounds_toArray, List.set_cons_zero, List.set_cons_succ]
          refine wpAnyZ_take (i := 3) (oi := { dst := some 76, op := Go.Op.load 3 (Go.Operand.tmp 75), type := 3, pos := "law.go:54", after := #[{ on := 2, ground := Go.Ground.data }], guard := none }) (v := _) rfl (by kernel_rfl) (by kernel_rfl) (by kernel_rfl) (by kernel_rfl) (by kernel_rfl) (fun _ _ _ h => h) (Or.inl ⟨by rfl, by (intro w' hSw; have yb1 := (hSw.cell (a := ⟨bb, 1, none⟩) lbb (by simp)).trans b1; have yx0 := (hSw.cell (a := ⟨xb, 0, none⟩) lxb (by simp)).trans d0; have yw3 := (hSw.cell (a := ⟨wb, 3, none⟩) lwb (by simp)).trans c3; have yu := (hSw.cell (a := ⟨uD, oD + j, none⟩) hlD (by simp)).trans aD; (try dsimp only at hSw); go_simp); (try (with_reducible rfl))⟩) (by assumption) ?_
          simp only [Act.put, List.setIfInBounds_toArray, List.set_cons_zero, List.set_cons_succ]
          refine wpAnyZ_take (i := 4) (oi := { dst := some 77, op := Go.Op.fieldAddr 28 (Go.Operand.tmp 1) 3, type := 0, pos := "law.go:54", after := #[], guard := none }) (v := _) rfl (by kernel_rfl) (by kernel_rfl) (by kernel_rfl) (by kernel_rfl) (by kernel_rfl) (fun _ _ _ h => h) (Or.inl ⟨by rfl, by (intro w' hSw; (try dsimp only at hSw); go_simp); (try (with_reducible rfl))⟩) (by assumption) ?_
          simp only [Act.put, List.setIfInBounds_toArray, List.set_cons_zero, List.set_cons_succ]
          refine wpAnyZ_take (i := 5) (oi := { dst := some 78, op := Go.Op.load 23 (Go.Operand.tmp 77), type := 23, pos := "law.go:54", after := #[{ on := 4, ground := Go.Ground.data }], guard := none }) (v := _) rfl (by kernel_rfl) (by kernel_rfl) (by kernel_rfl) (by kernel_rfl) (by kernel_rfl) (fun _ _ _ h => h) (Or.inl ⟨by rfl, by (intro w' hSw; have yb1 := (hSw.cell (a := ⟨bb, 1, none⟩) lbb (by simp)).trans b1; have yx0 := (hSw.cell (a := ⟨xb, 0, none⟩) lxb (by simp)).trans d0; have yw3 := (hSw.cell (a := ⟨wb, 3, none⟩) lwb (by simp)).trans c3; have yu := (hSw.cell (a := ⟨uD, oD + j, none⟩) hlD (by simp)).trans aD; (try dsimp only at hSw); go_simp); (try (with_reducible rfl))⟩) (by assumption) ?_
          simp only [Act.put, List.setIfInBounds_toArray, List.set_cons_zero, List.set_cons_succ]
          refine wpAnyZ_take (i := 6) (oi := { dst := some 79, op := Go.Op.move (Go.Operand.tmp 5), type := 3, pos := "law.go:54", after := #[], guard := none }) (v := _) rfl (by kernel_rfl) (by kernel_rfl) (by kernel_rfl) (by kernel_rfl) (by kernel_rfl) (fun _ _ _ h => h) (Or.inl ⟨by rfl, by (intro w' hSw; (try dsimp only at hSw); go_simp); (try (with_reducible rfl))⟩) (by assumption) ?_
          simp only [Act.put, List.setIfInBounds_toArray, List.set_cons_zero, List.set_cons_succ]
          refine wpAnyZ_take (i := 7) (oi := { dst := some 80, op := Go.Op.indexAddr 23 (Go.Operand.tmp 78) (Go.Operand.tmp 79), type := 0, pos := "law.go:54", after := #[{ on := 5, ground := Go.Ground.data }, { on := 6, ground := Go.Ground.data }], guard := none }) (v := _) rfl (by kernel_rfl) (by kernel_rfl) (by kernel_rfl) (by kernel_rfl) (by kernel_rfl) (fun _ _ _ h => h) (Or.inl ⟨by rfl, by (intro w' hSw; (try dsimp only at hSw); go_simp); (try (with_reducible rfl))⟩) (by assumption) ?_
          simp only [Act.put, List.setIfInBounds_toArray, List.set_cons_zero, List.set_cons_succ]
          refine wpAnyZ_take (i := 8) (oi := { dst := some 81, op := Go.Op.load 4 (Go.Operand.tmp 80), type := 4, pos := "law.go:54", after := #[{ on := 7, ground := Go.Ground.data }], guard := none }) (v := _) rfl (by kernel_rfl) (by kernel_rfl) (by kernel_rfl) (by kernel_rfl) (by kernel_rfl) (fun _ _ _ h => h) (Or.inl ⟨by rfl, by (intro w' hSw; have yb1 := (hSw.cell (a := ⟨bb, 1, none⟩) lbb (by simp)).trans b1; have yx0 := (hSw.cell (a := ⟨xb, 0, none⟩) lxb (by simp)).trans d0; have yw3 := (hSw.cell (a := ⟨wb, 3, none⟩) lwb (by simp)).trans c3; have yu := (hSw.cell (a := ⟨uD, oD + j, none⟩) hlD (by simp)).trans aD; (try dsimp only at hSw); go_simp); (try (with_reducible rfl))⟩) (by assumption) ?_
          simp only [Act.put, List.setIfInBounds_toArray, List.set_cons_zero, List.set_cons_succ]
          refine wpAnyZ_ready (rs := [9]) (by kernel_rfl) (by simp) ?_
          refine ZedOne.last (o := { dst := some 82, op := Go.Op.call { callee := Go.Callee.value (Go.Operand.func 18), args := #[Go.Operand.tmp 74, Go.Operand.tmp 76, Go.Operand.tmp 81], argTypes := #[37, 3, 4] }, type := 67, pos := "law.go:54", after := #[{ on := 1, ground := Go.Ground.data }, { on := 3, ground := Go.Ground.data }, { on := 8, ground := Go.Ground.data }], guard := none }) rfl (fun K hK => ?_)
          go_simp
          refine (both_drain hB.drew e.1 vD).mono ?_
          rintro en w3 ⟨⟨y3, rfl⟩, hBn, hT⟩
          dsimp only
          refine hK.out _ _ ?_
          clear hK K hS
          (try simp only [Act.put, List.setIfInBounds_toArray, List.set_cons_zero, List.set_cons_succ])
          refine wpAnyZ_done (by kernel_rfl) ?_ _
          rotate_left 1
          have hXn := hX.kept hT (by simp) (by simp) (by simp)
          have hEn := hT.at hE (by simp)
          clear hB hX hE hT d0 d1 d2 lxb c1 c2 c3 c4 c5 c6 c7 b0 b1 b2 b3 b4 b5 lwb lbb
          have hB := hBn
          have hX := hXn
          have hE := hEn
          clear hBn hXn hEn
          obtain ⟨⟨c1, c2, c3, c4, c5, c6, c7⟩, ⟨b0, b1, b2, b3, b4, b5⟩, lwb, lbb⟩ := hX.cells
          rw [HA.out.1] at c1
          rw [HA.out.2.1] at c2
          rw [HA.out.2.2.1] at c3
          rw [HA.out.2.2.2.1] at c4
          rw [HA.out.2.2.2.2.1] at c5
          rw [HA.out.2.2.2.2.2.1] at c6
          rw [HA.out.2.2.2.2.2.2] at c7
          have lxb := lt_of hE
          obtain ⟨⟨d0, d1, d2⟩, _⟩ := backend_cells hE
          clear aD hlD
          obtain ⟨hlD, hc⟩ := HCD.out _ hB.fr0
          have aD := hc 0 _ rfl
          simp only [Nat.mul_one, Nat.add_zero] at aD
          clear hc
          go_wp2
          refine wp_region_zed (P := Tryz.prog) (fun wz => Fr [] w3 wz) 9 (by kernel_rfl) ?_ (fun hS => ?_)
          · exact (Fr.refl [] _).drew
          refine wpAnyZ_take (i := 0) (oi := { dst := some 83, op := Go.Op.fieldAddr 43 (Go.Operand.tmp 4) 4, type := 0, pos := "law.go:55", after := #[], guard := none }) (v := _) rfl (by kernel_rfl) (by kernel_rfl) (by kernel_rfl) (by kernel_rfl) (by kernel_rfl) (fun _ _ _ h => h) (Or.inl ⟨by rfl, by (intro w' hSw; (try dsimp only at hSw); go_simp); (try (with_reducible rfl))⟩) (by assumption) ?_
          simp only [Act.put, List.setIfInBounds_toArray, List.set_cons_zero, List.set_cons_succ]
          refine wpAnyZ_take (i := 1) (oi := { dst := some 84, op := Go.Op.load 40 (Go.Operand.tmp 83), type := 40, pos := "law.go:55", after := #[{ on := 0, ground := Go.Ground.data }], guard := none }) (v := _) rfl (by kernel_rfl) (by kernel_rfl) (by kernel_rfl) (by kernel_rfl) (by kernel_rfl) (fun _ _ _ h => h) (Or.inl ⟨by rfl, by (intro w' hSw; have yb4 := (hSw.cell (a := ⟨bb, 4, none⟩) lbb (by simp)).trans b4; have yx0 := (hSw.cell (a := ⟨xb, 0, none⟩) lxb (by simp)).trans d0; have yw3 := (hSw.cell (a := ⟨wb, 3, none⟩) lwb (by simp)).trans c3; have yu := (hSw.cell (a := ⟨uD, oD + j, none⟩) hlD (by simp)).trans aD; (try dsimp only at hSw); go_simp); (try (with_reducible rfl))⟩) (by assumption) ?_
          simp only [Act.put, List.setIfInBounds_toArray, List.set_cons_zero, List.set_cons_succ]
          refine wpAnyZ_take (i := 2) (oi := { dst := some 85, op := Go.Op.fieldAddr 56 (Go.Operand.tmp 6) 0, type := 0, pos := "law.go:55", after := #[], guard := none }) (v := _) rfl (by kernel_rfl) (by kernel_rfl) (by kernel_rfl) (by kernel_rfl) (by kernel_rfl) (fun _ _ _ h => h) (Or.inl ⟨by rfl, by (intro w' hSw; (try dsimp only at hSw); go_simp); (try (with_reducible rfl))⟩) (by assumption) ?_
          simp only [Act.put, List.setIfInBounds_toArray, List.set_cons_zero, List.set_cons_succ]
          refine wpAnyZ_take (i := 3) (oi := { dst := some 86, op := Go.Op.load 3 (Go.Operand.tmp 85), type := 3, pos := "law.go:55", after := #[{ on := 2, ground := Go.Ground.data }], guard := none }) (v := _) rfl (by kernel_rfl) (by kernel_rfl) (by kernel_rfl) (by kernel_rfl) (by kernel_rfl) (fun _ _ _ h => h) (Or.inl ⟨by rfl, by (intro w' hSw; have yb4 := (hSw.cell (a := ⟨bb, 4, none⟩) lbb (by simp)).trans b4; have yx0 := (hSw.cell (a := ⟨xb, 0, none⟩) lxb (by simp)).trans d0; have yw3 := (hSw.cell (a := ⟨wb, 3, none⟩) lwb (by simp)).trans c3; have yu := (hSw.cell (a := ⟨uD, oD + j, none⟩) hlD (by simp)).trans aD; (try dsimp only at hSw); go_simp); (try (with_reducible rfl))⟩) (by assumption) ?_
          simp only [Act.put, List.setIfInBounds_toArray, List.set_cons_zero, List.set_cons_succ]
          refine wpAnyZ_take (i := 4) (oi := { dst := some 87, op := Go.Op.fieldAddr 28 (Go.Operand.tmp 1) 3, type := 0, pos := "law.go:55", after := #[], guard := none }) (v := _) rfl (by kernel_rfl) (by kernel_rfl) (by kernel_rfl) (by kernel_rfl) (by kernel_rfl) (fun _ _ _ h => h) (Or.inl ⟨by rfl, by (intro w' hSw; (try dsimp only at hSw); go_simp); (try (with_reducible rfl))⟩) (by assumption) ?_
          simp only [Act.put, List.setIfInBounds_toArray, List.set_cons_zero, List.set_cons_succ]
          refine wpAnyZ_take (i := 5) (oi := { dst := some 88, op := Go.Op.load 23 (Go.Operand.tmp 87), type := 23, pos := "law.go:55", after := #[{ on := 4, ground := Go.Ground.data }], guard := none }) (v := _) rfl (by kernel_rfl) (by kernel_rfl) (by kernel_rfl) (by kernel_rfl) (by kernel_rfl) (fun _ _ _ h => h) (Or.inl ⟨by rfl, by (intro w' hSw; have yb4 := (hSw.cell (a := ⟨bb, 4, none⟩) lbb (by simp)).trans b4; have yx0 := (hSw.cell (a := ⟨xb, 0, none⟩) lxb (by simp)).trans d0; have yw3 := (hSw.cell (a := ⟨wb, 3, none⟩) lwb (by simp)).trans c3; have yu := (hSw.cell (a := ⟨uD, oD + j, none⟩) hlD (by simp)).trans aD; (try dsimp only at hSw); go_simp); (try (with_reducible rfl))⟩) (by assumption) ?_
          simp only [Act.put, List.setIfInBounds_toArray, List.set_cons_zero, List.set_cons_succ]
          refine wpAnyZ_take (i := 6) (oi := { dst := some 89, op := Go.Op.move (Go.Operand.tmp 5), type := 3, pos := "law.go:55", after := #[], guard := none }) (v := _) rfl (by kernel_rfl) (by kernel_rfl) (by kernel_rfl) (by kernel_rfl) (by kernel_rfl) (fun _ _ _ h => h) (Or.inl ⟨by rfl, by (intro w' hSw; (try dsimp only at hSw); go_simp); (try (with_reducible rfl))⟩) (by assumption) ?_
          simp only [Act.put, List.setIfInBounds_toArray, List.set_cons_zero, List.set_cons_succ]
          refine wpAnyZ_take (i := 7) (oi := { dst := some 90, op := Go.Op.indexAddr 23 (Go.Operand.tmp 88) (Go.Operand.tmp 89), type := 0, pos := "law.go:55", after := #[{ on := 5, ground := Go.Ground.data }, { on := 6, ground := Go.Ground.data }], guard := none }) (v := _) rfl (by kernel_rfl) (by kernel_rfl) (by kernel_rfl) (by kernel_rfl) (by kernel_rfl) (fun _ _ _ h => h) (Or.inl ⟨by rfl, by (intro w' hSw; (try dsimp only at hSw); go_simp); (try (with_reducible rfl))⟩) (by assumption) ?_
          simp only [Act.put, List.setIfInBounds_toArray, List.set_cons_zero, List.set_cons_succ]
          refine wpAnyZ_take (i := 8) (oi := { dst := some 91, op := Go.Op.load 4 (Go.Operand.tmp 90), type := 4, pos := "law.go:55", after := #[{ on := 7, ground := Go.Ground.data }], guard := none }) (v := _) rfl (by kernel_rfl) (by kernel_rfl) (by kernel_rfl) (by kernel_rfl) (by kernel_rfl) (fun _ _ _ h => h) (Or.inl ⟨by rfl, by (intro w' hSw; have yb4 := (hSw.cell (a := ⟨bb, 4, none⟩) lbb (by simp)).trans b4; have yx0 := (hSw.cell (a := ⟨xb, 0, none⟩) lxb (by simp)).trans d0; have yw3 := (hSw.cell (a := ⟨wb, 3, none⟩) lwb (by simp)).trans c3; have yu := (hSw.cell (a := ⟨uD, oD + j, none⟩) hlD (by simp)).trans aD; (try dsimp only at hSw); go_simp); (try (with_reducible rfl))⟩) (by assumption) ?_
          simp only [Act.put, List.setIfInBounds_toArray, List.set_cons_zero, List.set_cons_succ]
          refine wpAnyZ_ready (rs := [9]) (by kernel_rfl) (by simp) ?_
          refine ZedOne.last (o := { dst := some 92, op := Go.Op.call { callee := Go.Callee.value (Go.Operand.func 30), args := #[Go.Operand.tmp 84, Go.Operand.tmp 86, Go.Operand.tmp 91], argTypes := #[40, 3, 4] }, type := 3, pos := "law.go:55", after := #[{ on := 1, ground := Go.Ground.data }, { on := 3, ground := Go.Ground.data }, { on := 8, ground := Go.Ground.data }], guard := none }) rfl (fun K hK => ?_)
          go_simp
          refine (both_qdrain hB.drew e.1 vD).mono ?_
          rintro en w4 ⟨⟨y4, rfl⟩, hBn, hT⟩
          dsimp only
          refine hK.out _ _ ?_
          clear hK K hS
          (try simp only [Act.put, List.setIfInBounds_toArray, List.set_cons_zero, List.set_cons_succ])
          refine wpAnyZ_done (by kernel_rfl) ?_ _
          rotate_left 1
          have hXn := hX.kept hT (by simp) (by simp) (by simp)
          have hEn := hT.at hE (by simp)
          clear hB hX hE hT d0 d1 d2 lxb c1 c2 c3 c4 c5 c6 c7 b0 b1 b2 b3 b4 b5 lwb lbb
          have hB := hBn
          have hX := hXn
          have hE := hEn
          clear hBn hXn hEn
          obtain ⟨⟨c1, c2, c3, c4, c5, c6, c7⟩, ⟨b0, b1, b2, b3, b4, b5⟩, lwb, lbb⟩ := hX.cells
          rw [HA.out.1] at c1
          rw [HA.out.2.1] at c2
          rw [HA.out.2.2.1] at c3
          rw [HA.out.2.2.2.1] at c4
          rw [HA.out.2.2.2.2.1] at c5
          rw [HA.out.2.2.2.2.2.1] at c6
          rw [HA.out.2.2.2.2.2.2] at c7
          have lxb := lt_of hE
          obtain ⟨⟨d0, d1, d2⟩, _⟩ := backend_cells hE
          clear aD hlD
          go_wp2
          have hPj : poolTo x (j + 1) = pchange (padd (poolTo x j) e.1 e.2.1 e.2.2) e.1 (fun m => { m with drain := vD }) := by
            simp only [poolTo, HE.out, poolStep, hnU, HVD.out]
          refine ⟨⟨j + 1, ?_, ?_, ?_, ?_⟩, ?_⟩
          · omega
          · go_num
          · rw [hPj]
            exact hB.sub (by simp)
          · exact hX
          · simp [intOf]
            omega
        · have hnD : x.dr.l[j]? = none := List.getElem?_eq_none (by rw [HX.out.dr.len]; omega)
          go_wp2
          have hPj : poolTo x (j + 1) = padd (poolTo x j) e.1 e.2.1 e.2.2 := by
            simp only [poolTo, HE.out, poolStep, hnU, hnD]
          refine ⟨⟨j + 1, ?_, ?_, ?_, ?_⟩, ?_⟩
          · omega
          · go_num
          · rw [hPj]
            exact hB.sub (by simp)
          · exact hX
          · simp [intOf]
            omega
    · obtain rfl : j = x.bk.n := by omega
      go_wp2
      obtain ⟨wo, rfl⟩ : ∃ wo : World, wo = wr := ⟨_, rfl⟩
      go_loopw [97] (fun i wr => Rel2 w x wb bb rb t p s u q r i wr) (fun i _ => x.st.n - (intOf i).toNat)
      case atStart => exact ⟨0, Nat.zero_le _, rfl, hB, hX⟩
      case round =>
        clear hB hX c1 c2 c3 c4 c5 c6 c7 b0 b1 b2 b3 b4 b5 lwb lbb
        obtain ⟨j, hj, rfl, hB, hX⟩ := hrel
        obtain ⟨⟨c1, c2, c3, c4, c5, c6, c7⟩, ⟨b0, b1, b2, b3, b4, b5⟩, lwb, lbb⟩ := hX.cells
        rw [HA.out.1] at c1
        rw [HA.out.2.1] at c2
        rw [HA.out.2.2.1] at c3
        rw [HA.out.2.2.2.1] at c4
        rw [HA.out.2.2.2.2.1] at c5
        rw [HA.out.2.2.2.2.2.1] at c6
        rw [HA.out.2.2.2.2.2.2] at c7
        by_cases hlt : j < x.st.n
        · obtain ⟨e, he⟩ : ∃ e, x.st.l[j]? = some e := ⟨x.st.l[j]'(by rw [HX.out.st.len]; exact hlt), List.getElem?_eq_getElem _⟩
          obtain ⟨gb, go, hga, hgc⟩ := HX.out.st.one he
          obtain rfl : as_ = some ⟨gb, go, none⟩ := HA.out.2.2.2.1.symm.trans hga
          obtain ⟨hgl, hgc⟩ := hgc _ hB.fr0
          have k0 : wr.cell? ⟨gb, go + j * 3, none⟩ = some (.int .i64 e.1) := hgc 0 _ rfl
          have k1 : wr.cell? ⟨gb, go + j * 3 + 1, none⟩ = some (.int .u32 e.2.1) := hgc 1 _ rfl
          have k2 : wr.cell? ⟨gb, go + j * 3 + 2, none⟩ = some (.int .i64 e.2.2) := hgc 2 _ rfl
          have j0 : (0 : Int) ≤ j := by omega
          have j1 : (j : Int) < x.st.n := by omega
          clear hgc he hga
          go_wp2_with fail
          refine (both_sadd (hB.alloc _) e.1 e.2.1 e.2.2).mono ?_
          rintro en w1 ⟨⟨y1, rfl⟩, hBn, hT⟩
          have hXn := (hX.fr ((Fr.refl [] wr).alloc _)).kept hT (by simp) (by simp) (by simp)
          have hE := hT.at (heap_new wr _) (by simp)
          obtain ⟨xb, hxb⟩ : ∃ xb, wr.heap.size = xb := ⟨_, rfl⟩
          rw [hxb] at hBn hE ⊢
          clear hxb hB hX hT
          have hB := hBn
          have hX := hXn
          clear hBn hXn
          clear c1 c2 c3 c4 c5 c6 c7 b0 b1 b2 b3 b4 b5 lwb lbb
          obtain ⟨⟨c1, c2, c3, c4, c5, c6, c7⟩, ⟨b0, b1, b2, b3, b4, b5⟩, lwb, lbb⟩ := hX.cells
          rw [HA.out.1] at c1
          rw [HA.out.2.1] at c2
          rw [HA.out.2.2.1] at c3
          rw [HA.out.2.2.2.1] at c4
          rw [HA.out.2.2.2.2.1] at c5
          rw [HA.out.2.2.2.2.2.1] at c6
          rw [HA.out.2.2.2.2.2.2] at c7
          have lxb := lt_of hE
          obtain ⟨⟨d0, d1, d2⟩, _⟩ := site_cells hE
          go_wp2_with fail
          refine (both_vadd hB e.1 e.2.1 e.2.2).mono ?_
          rintro en w2 ⟨⟨y2, rfl⟩, hBn, hT⟩
          have hXn := hX.kept hT (by simp) (by simp) (by simp)
          have hEn := hT.at hE (by simp)
          clear hB hX hE hT d0 d1 d2 lxb c1 c2 c3 c4 c5 c6 c7 b0 b1 b2 b3 b4 b5 lwb lbb
          have hB := hBn
          have hX := hXn
          have hE := hEn
          clear hBn hXn hEn
          obtain ⟨⟨c1, c2, c3, c4, c5, c6, c7⟩, ⟨b0, b1, b2, b3, b4, b5⟩, lwb, lbb⟩ := hX.cells
          rw [HA.out.1] at c1
          rw [HA.out.2.1] at c2
          rw [HA.out.2.2.1] at c3
          rw [HA.out.2.2.2.1] at c4
          rw [HA.out.2.2.2.2.1] at c5
          rw [HA.out.2.2.2.2.2.1] at c6
          rw [HA.out.2.2.2.2.2.2] at c7
          have lxb := lt_of hE
          obtain ⟨⟨d0, d1, d2⟩, _⟩ := site_cells hE
          by_cases hC : j < x.cp.n
          · obtain ⟨vC, hvC⟩ : ∃ v, x.cp.l[j]? = some v := ⟨x.cp.l[j]'(by rw [HX.out.cp.len]; exact hC), List.getElem?_eq_getElem _⟩
            have jC : (j : Int) < x.cp.n := by omega
            obtain ⟨uC, oC, ha, hc⟩ := HX.out.cp.one hvC
            obtain rfl : ac = some ⟨uC, oC, none⟩ := HA.out.2.2.2.2.1.symm.trans ha
            have HCC := Lib.hid hc
            have HVC := Lib.hid hvC
            clear ha hc hvC
            obtain ⟨hlC, hc⟩ := HCC.out _ hB.fr0
            have aC := hc 0 _ rfl
            simp only [Nat.mul_one, Nat.add_zero] at aC
            clear hc
            go_wp2
            refine wp_region_zed (P := Tryz.prog) (fun wz => Fr [] w2 wz) 9 (by kernel_rfl) ?_ (fun hS => ?_)
            · exact (Fr.refl [] _).drew
            refine wpAnyZ_take (i := 0) (oi := { dst := some 115, op := Go.Op.fieldAddr 43 (Go.Operand.tmp 4) 2, type := 0, pos := "law.go:62", after := #[], guard := none }) (v := _) rfl (by kernel_rfl) (by kernel_rfl) (by kernel_rfl) (by kernel_rfl) (by kernel_rfl) (fun _ _ _ h => h) (Or.inl ⟨by rfl, by (intro w' hSw; (try dsimp only at hSw); go_simp); (try (with_reducible rfl))⟩) (by assumption) ?_
            simp only [Act.put, List.setIfInBounds_toArray, List.set_cons_zero, List.set_cons_succ]
            refine wpAnyZ_take (i := 1) (oi := { dst := some 116, op := Go.Op.load 38 (Go.Operand.tmp 115), type := 38, pos := "law.go:62", after := #[{ on := 0, ground := Go.Ground.data }], guard := none }) (v := _) rfl (by kernel_rfl) (by kernel_rfl) (by kernel_rfl) (by kernel_rfl) (by kernel_rfl) (fun _ _ _ h => h) (Or.inl ⟨by rfl, by (intro w' hSw; have yb2 := (hSw.cell (a := ⟨bb, 2, none⟩) lbb (by simp)).trans b2; have yx0 := (hSw.cell (a := ⟨xb, 0, none⟩) lxb (by simp)).trans d0; have yw5 := (hSw.cell (a := ⟨wb, 5, none⟩) lwb (by simp)).trans c5; have yu := (hSw.cell (a := ⟨uC, oC + j, none⟩) hlC (by simp)).trans aC; (try dsimp only at hSw); go_simp); (try (with_reducible rfl))⟩) (by assumption) ?_
            simp only [Act.put, List.setIfInBounds_toArray, List.set_cons_zero, List.set_cons_succ]
            refine wpAnyZ_take (i := 2) (oi := { dst := some 117, op := Go.Op.fieldAddr 62 (Go.Operand.tmp 8) 0, type := 0, pos := "law.go:62", after := #[], guard := none }) (v := _) rfl (by kernel_rfl) (by kernel_rfl) (by kernel_rfl) (by kernel_rfl) (by kernel_rfl) (fun _ _ _ h => h) (Or.inl ⟨by rfl, by (intro w' hSw; (try dsimp only at hSw); go_simp); (try (with_reducible rfl))⟩) (by assumption) ?_
            simp only [Act.put, List.setIfInBounds_toArray, List.set_cons_zero, List.set_cons_succ]
            refine wpAnyZ_take (i := 3) (oi := { dst := some 118, op := Go.Op.load 3 (Go.Operand.tmp 117), type := 3, pos := "law.go:62", after := #[{ on := 2, ground := Go.Ground.data }], guard := none }) (v := _) rfl (by kernel_rfl) (by kernel_rfl) (by kernel_rfl) (by kernel_rfl) (by kernel_rfl) (fun _ _ _ h => h) (Or.inl ⟨by rfl, by (intro w' hSw; have yb2 := (hSw.cell (a := ⟨bb, 2, none⟩) lbb (by simp)).trans b2; have yx0 := (hSw.cell (a := ⟨xb, 0, none⟩) lxb (by simp)).trans d0; have yw5 := (hSw.cell (a := ⟨wb, 5, none⟩) lwb (by simp)).trans c5; have yu := (hSw.cell (a := ⟨uC, oC + j, none⟩) hlC (by simp)).trans aC; (try dsimp only at hSw); go_simp); (try (with_reducible rfl))⟩) (by assumption) ?_
            simp only [Act.put, List.setIfInBounds_toArray, List.set_cons_zero, List.set_cons_succ]
            refine wpAnyZ_take (i := 4) (oi := { dst := some 119, op := Go.Op.fieldAddr 28 (Go.Operand.tmp 1) 5, type := 0, pos := "law.go:62", after := #[], guard := none }) (v := _) rfl (by kernel_rfl) (by kernel_rfl) (by kernel_rfl) (by kernel_rfl) (by kernel_rfl) (fun _ _ _ h => h) (Or.inl ⟨by rfl, by (intro w' hSw; (try dsimp only at hSw); go_simp); (try (with_reducible rfl))⟩) (by assumption) ?_
            simp only [Act.put, List.setIfInBounds_toArray, List.set_cons_zero, List.set_cons_succ]
            refine wpAnyZ_take (i := 5) (oi := { dst := some 120, op := Go.Op.load 25 (Go.Operand.tmp 119), type := 25, pos := "law.go:62", after := #[{ on := 4, ground := Go.Ground.data }], guard := none }) (v := _) rfl (by kernel_rfl) (by kernel_rfl) (by kernel_rfl) (by kernel_rfl) (by kernel_rfl) (fun _ _ _ h => h) (Or.inl ⟨by rfl, by (intro w' hSw; have yb2 := (hSw.cell (a := ⟨bb, 2, none⟩) lbb (by simp)).trans b2; have yx0 := (hSw.cell (a := ⟨xb, 0, none⟩) lxb (by simp)).trans d0; have yw5 := (hSw.cell (a := ⟨wb, 5, none⟩) lwb (by simp)).trans c5; have yu := (hSw.cell (a := ⟨uC, oC + j, none⟩) hlC (by simp)).trans aC; (try dsimp only at hSw); go_simp); (try (with_reducible rfl))⟩) (by assumption) ?_
            simp only [Act.put, List.setIfInBounds_toArray, List.set_cons_zero, List.set_cons_succ]
            refine wpAnyZ_take (i := 6) (oi := { dst := some 121, op := Go.Op.move (Go.Operand.tmp 7), type := 3, pos := "law.go:62", after := #[], guard := none }) (v := _) rfl (by kernel_rfl) (by kernel_rfl) (by kernel_rfl) (by kernel_rfl) (by kernel_rfl) (fun _ _ _ h => h) (Or.inl ⟨by rfl, by (intro w' hSw; (try dsimp only at hSw); go_simp); (try (with_reducible rfl))⟩) (by assumption) ?_
            simp only [Act.put, List.setIfInBounds_toArray, List.set_cons_zero, List.set_cons_succ]
            refine wpAnyZ_take (i := 7) (oi := { dst := some 122, op := Go.Op.indexAddr 25 (Go.Operand.tmp 120) (Go.Operand.tmp 121), type := 0, pos := "law.go:62", after := #[{ on := 5, ground := Go.Ground.data }, { on := 6, ground := Go.Ground.data }], guard := none }) (v := _) rfl (by kernel_rfl) (by kernel_rfl) (by kernel_rfl) (by kernel_rfl) (by kernel_rfl) (fun _ _ _ h => h) (Or.inl ⟨by rfl, by (intro w' hSw; (try dsimp only at hSw); go_simp); (try (with_reducible rfl))⟩) (by assumption) ?_
            simp only [Act.put, List.setIfInBounds_toArray, List.set_cons_zero, List.set_cons_succ]
            refine wpAnyZ_take (i := 8) (oi := { dst := some 123, op := Go.Op.load 3 (Go.Operand.tmp 122), type := 3, pos := "law.go:62", after := #[{ on := 7, ground := Go.Ground.data }], guard := none }) (v := _) rfl (by kernel_rfl) (by kernel_rfl) (by kernel_rfl) (by kernel_rfl) (by kernel_rfl) (fun _ _ _ h => h) (Or.inl ⟨by rfl, by (intro w' hSw; have yb2 := (hSw.cell (a := ⟨bb, 2, none⟩) lbb (by simp)).trans b2; have yx0 := (hSw.cell (a := ⟨xb, 0, none⟩) lxb (by simp)).trans d0; have yw5 := (hSw.cell (a := ⟨wb, 5, none⟩) lwb (by simp)).trans c5; have yu := (hSw.cell (a := ⟨uC, oC + j, none⟩) hlC (by simp)).trans aC; (try dsimp only at hSw); go_simp); (try (with_reducible rfl))⟩) (by assumption) ?_
            simp only [Act.put, List.setIfInBounds_toArray, List.set_cons_zero, List.set_cons_succ]
            refine wpAnyZ_ready (rs := [9]) (by kernel_rfl) (by simp) ?_
            refine ZedOne.last (o := { dst := some 124, op := Go.Op.call { callee := Go.Callee.value (Go.Operand.func 33), args := #[Go.Operand.tmp 116, Go.Operand.tmp 118, Go.Operand.tmp 123, Go.Operand.const (Go.Value.int Go.IntKind.i64 50)], argTypes := #[38, 3, 3, 3] }, type := 67, pos := "law.go:62", after := #[{ on := 1, ground := Go.Ground.data }, { on := 3, ground := Go.Ground.data }, { on := 8, ground := Go.Ground.data }], guard := none }) rfl (fun K hK => ?_)
            go_simp
            refine (both_sreport hB.drew e.1 vC 50).mono ?_
            rintro en w3 ⟨⟨y3, rfl⟩, hBn, hT⟩
            dsimp only
            refine hK.out _ _ ?_
            clear hK K hS
            (try simp only [Act.put, List.setIfInBounds_toArray, List.set_cons_zero, List.set_cons_succ])
            refine wpAnyZ_done (by kernel_rfl) ?_ _
            rotate_left 1
            have hXn := hX.kept hT (by simp) (by simp) (by simp)
            have hEn := hT.at hE (by simp)
            clear hB hX hE hT d0 d1 d2 lxb c1 c2 c3 c4 c5 c6 c7 b0 b1 b2 b3 b4 b5 lwb lbb
            have hB := hBn
            have hX := hXn
            have hE := hEn
            clear hBn hXn hEn
            obtain ⟨⟨c1, c2, c3, c4, c5, c6, c7⟩, ⟨b0, b1, b2, b3, b4, b5⟩, lwb, lbb⟩ := hX.cells
            rw [HA.out.1] at c1
            rw [HA.out.2.1] at c2
            rw [HA.out.2.2.1] at c3
            rw [HA.out.2.2.2.1] at c4
            rw [HA.out.2.2.2.2.1] at c5
            rw [HA.out.2.2.2.2.2.1] at c6
            rw [HA.out.2.2.2.2.2.2] at c7
            have lxb := lt_of hE
            obtain ⟨⟨d0, d1, d2⟩, _⟩ := site_cells hE
            clear aC hlC
            obtain ⟨hlC, hc⟩ := HCC.out _ hB.fr0
            have aC := hc 0 _ rfl
            simp only [Nat.mul_one, Nat.add_zero] at aC
            clear hc
            go_wp2
            refine wp_region_zed (P := Tryz.prog) (fun wz => Fr [] w3 wz) 9 (by kernel_rfl) ?_ (fun hS => ?_)
            · exact (Fr.refl [] _).drew
            refine wpAnyZ_take (i := 0) (oi := { dst := some 125, op := Go.Op.fieldAddr 43 (Go.Operand.tmp 4) 5, type := 0, pos := "law.go:63", after := #[], guard := none }) (v := _) rfl (by kernel_rfl) (by kernel_rfl) (by kernel_rfl) (by kernel_rfl) (by kernel_rfl) (fun _ _ _ h => h) (Or.inl ⟨by rfl, by (intro w' hSw; (try dsimp only at hSw); go_simp); (try (with_reducible rfl))⟩) (by assumption) ?_
            simp only [Act.put, List.setIfInBounds_toArray, List.set_cons_zero, List.set_cons_succ]
            refine wpAnyZ_take (i := 1) (oi := { dst := some 126, op := Go.Op.load 41 (Go.Operand.tmp 125), type := 41, pos := "law.go:63", after := #[{ on := 0, ground := Go.Ground.data }], guard := none }) (v := _) rfl (by kernel_rfl) (by kernel_rfl) (by kernel_rfl) (by kernel_rfl) (by kernel_rfl) (fun _ _ _ h => h) (Or.inl ⟨by rfl, by (intro w' hSw; have yb5 := (hSw.cell (a := ⟨bb, 5, none⟩) lbb (by simp)).trans b5; have yx0 := (hSw.cell (a := ⟨xb, 0, none⟩) lxb (by simp)).trans d0; have yw5 := (hSw.cell (a := ⟨wb, 5, none⟩) lwb (by simp)).trans c5; have yu := (hSw.cell (a := ⟨uC, oC + j, none⟩) hlC (by simp)).trans aC; (try dsimp only at hSw); go_simp); (try (with_reducible rfl))⟩) (by assumption) ?_
            simp only [Act.put, List.setIfInBounds_toArray, List.set_cons_zero, List.set_cons_succ]
            refine wpAnyZ_take (i := 2) (oi := { dst := some 127, op := Go.Op.fieldAddr 62 (Go.Operand.tmp 8) 0, type := 0, pos := "law.go:63", after := #[], guard := none }) (v := _) rfl (by kernel_rfl) (by kernel_rfl) (by kernel_rfl) (by kernel_rfl) (by kernel_rfl) (fun _ _ _ h => h) (Or.inl ⟨by rfl, by (intro w' hSw; (try dsimp only at hSw); go_simp); (try (with_reducible rfl))⟩) (by assumption) ?_
            simp only [Act.put, List.setIfInBounds_toArray, List.set_cons_zero, List.set_cons_succ]
            refine wpAnyZ_take (i := 3) (oi := { dst := some 128, op := Go.Op.load 3 (Go.Operand.tmp 127), type := 3, pos := "law.go:63", after := #[{ on := 2, ground := Go.Ground.data }], guard := none }) (v := _) rfl (by kernel_rfl) (by kernel_rfl) (by kernel_rfl) (by kernel_rfl) (by kernel_rfl) (fun _ _ _ h => h) (Or.inl ⟨by rfl, by (intro w' hSw; have yb5 := (hSw.cell (a := ⟨bb, 5, none⟩) lbb (by simp)).trans b5; have yx0 := (hSw.cell (a := ⟨xb, 0, none⟩) lxb (by simp)).trans d0; have yw5 := (hSw.cell (a := ⟨wb, 5, none⟩) lwb (by simp)).trans c5; have yu := (hSw.cell (a := ⟨uC, oC + j, none⟩) hlC (by simp)).trans aC; (try dsimp only at hSw); go_simp); (try (with_reducible rfl))⟩) (by assumption) ?_
            simp only [Act.put, List.setIfInBounds_toArray, List.set_cons_zero, List.set_cons_succ]
            refine wpAnyZ_take (i := 4) (oi := { dst := some 129, op := Go.Op.fieldAddr 28 (Go.Operand.tmp 1) 5, type := 0, pos := "law.go:63", after := #[], guard := none }) (v := _) rfl (by kernel_rfl) (by kernel_rfl) (by kernel_rfl) (by kernel_rfl) (by kernel_rfl) (fun _ _ _ h => h) (Or.inl ⟨by rfl, by (intro w' hSw; (try dsimp only at hSw); go_simp); (try (with_reducible rfl))⟩) (by assumption) ?_
            simp only [Act.put, List.setIfInBounds_toArray, List.set_cons_zero, List.set_cons_succ]
            refine wpAnyZ_take (i := 5) (oi := { dst := some 130, op := Go.Op.load 25 (Go.Operand.tmp 129), type := 25, pos := "law.go:63", after := #[{ on := 4, ground := Go.Ground.data }], guard := none }) (v := _) rfl (by kernel_rfl) (by kernel_rfl) (by kernel_rfl) (by kernel_rfl) (by kernel_rfl) (fun _ _ _ h => h) (Or.inl ⟨by rfl, by (intro w' hSw; have yb5 := (hSw.cell (a := ⟨bb, 5, none⟩) lbb (by simp)).trans b5; have yx0 := (hSw.cell (a := ⟨xb, 0, none⟩) lxb (by simp)).trans d0; have yw5 := (hSw.cell (a := ⟨wb, 5, none⟩) lwb (by simp)).trans c5; have yu := (hSw.cell (a := ⟨uC, oC + j, none⟩) hlC (by simp)).trans aC; (try dsimp only at hSw); go_simp); (try (with_reducible rfl))⟩) (by assumption) ?_
            simp only [Act.put, List.setIfInBounds_toArray, List.set_cons_zero, List.set_cons_succ]
            refine wpAnyZ_take (i := 6) (oi := { dst := some 131, op := Go.Op.move (Go.Operand.tmp 7), type := 3, pos := "law.go:63", after := #[], guard := none }) (v := _) rfl (by kernel_rfl) (by kernel_rfl) (by kernel_rfl) (by kernel_rfl) (by kernel_rfl) (fun _ _ _ h => h) (Or.inl ⟨by rfl, by (intro w' hSw; (try dsimp only at hSw); go_simp); (try (with_reducible rfl))⟩) (by assumption) ?_
            simp only [Act.put, List.setIfInBounds_toArray, List.set_cons_zero, List.set_cons_succ]
            refine wpAnyZ_take (i := 7) (oi := { dst := some 132, op := Go.Op.indexAddr 25 (Go.Operand.tmp 130) (Go.Operand.tmp 131), type := 0, pos := "law.go:63", after := #[{ on := 5, ground := Go.Ground.data }, { on := 6, ground := Go.Ground.data }], guard := none }) (v := _) rfl (by kernel_rfl) (by kernel_rfl) (by kernel_rfl) (by kernel_rfl) (by kernel_rfl) (fun _ _ _ h => h) (Or.inl ⟨by rfl, by (intro w' hSw; (try dsimp only at hSw); go_simp); (try (with_reducible rfl))⟩) (by assumption) ?_
            simp only [Act.put, List.setIfInBounds_toArray, List.set_cons_zero, List.set_cons_succ]
            refine wpAnyZ_take (i := 8) (oi := { dst := some 133, op := Go.Op.load 3 (Go.Operand.tmp 132), type := 3, pos := "law.go:63", after := #[{ on := 7, ground := Go.Ground.data }], guard := none }) (v := _) rfl (by kernel_rfl) (by kernel_rfl) (by kernel_rfl) (by kernel_rfl) (by kernel_rfl) (fun _ _ _ h => h) (Or.inl ⟨by rfl, by (intro w' hSw; have yb5 := (hSw.cell (a := ⟨bb, 5, none⟩) lbb (by simp)).trans b5; have yx0 := (hSw.cell (a := ⟨xb, 0, none⟩) lxb (by simp)).trans d0; have yw5 := (hSw.cell (a := ⟨wb, 5, none⟩) lwb (by simp)).trans c5; have yu := (hSw.cell (a := ⟨uC, oC + j, none⟩) hlC (by simp)).trans aC; (try dsimp only at hSw); go_simp); (try (with_reducible rfl))⟩) (by assumption) ?_
            simp only [Act.put, List.setIfInBounds_toArray, List.set_cons_zero, List.set_cons_succ]
            refine wpAnyZ_ready (rs := [9]) (by kernel_rfl) (by simp) ?_
            refine ZedOne.last (o := { dst := some 134, op := Go.Op.call { callee := Go.Callee.value (Go.Operand.func 34), args := #[Go.Operand.tmp 126, Go.Operand.tmp 128, Go.Operand.tmp 133, Go.Operand.const (Go.Value.int Go.IntKind.i64 50)], argTypes := #[41, 3, 3, 3] }, type := 3, pos := "law.go:63", after := #[{ on := 1, ground := Go.Ground.data }, { on := 3, ground := Go.Ground.data }, { on := 8, ground := Go.Ground.data }], guard := none }) rfl (fun K hK => ?_)
            go_simp
            refine (both_vreport hB.drew e.1 vC 50).mono ?_
            rintro en w4 ⟨⟨y4, rfl⟩, hBn, hT⟩
            dsimp only
            refine hK.out _ _ ?_
            clear hK K hS
            (try simp only [Act.put, List.setIfInBounds_toArray, List.set_cons_zero, List.set_cons_succ])
            refine wpAnyZ_done (by kernel_rfl) ?_ _
            rotate_left 1
            have hXn := hX.kept hT (by simp) (by simp) (by simp)
            have hEn := hT.at hE (by simp)
            clear hB hX hE hT d0 d1 d2 lxb c1 c2 c3 c4 c5 c6 c7 b0 b1 b2 b3 b4 b5 lwb lbb
            have hB := hBn
            have hX := hXn
            have hE := hEn
            clear hBn hXn hEn
            obtain ⟨⟨c1, c2, c3, c4, c5, c6, c7⟩, ⟨b0, b1, b2, b3, b4, b5⟩, lwb, lbb⟩ := hX.cells
            rw [HA.out.1] at c1
            rw [HA.out.2.1] at c2
            rw [HA.out.2.2.1] at c3
            rw [HA.out.2.2.2.1] at c4
            rw [HA.out.2.2.2.2.1] at c5
            rw [HA.out.2.2.2.2.2.1] at c6
            rw [HA.out.2.2.2.2.2.2] at c7
            have lxb := lt_of hE
            obtain ⟨⟨d0, d1, d2⟩, _⟩ := site_cells hE
            clear aC hlC
            go_wp2
            refine ⟨⟨j + 1, ?_, ?_, ?_, ?_⟩, ?_⟩
            · omega
            · go_num
            · exact hB.sub (by simp)
            · exact hX
            · simp [intOf]
              omega
          · go_wp2
            refine ⟨⟨j + 1, ?_, ?_, ?_, ?_⟩, ?_⟩
            · omega
            · go_num
            · exact hB.sub (by simp)
            · exact hX
            · simp [intOf]
              omega
        · obtain rfl : j = x.st.n := by omega
          go_wp2
          obtain ⟨wo2, rfl⟩ : ∃ wo2 : World, wo2 = wr := ⟨_, rfl⟩
          go_loopw [139] (fun i wr => Rel3 w x wb bb rb t p s u q r i wr) (fun i _ => x.fl.n - (intOf i).toNat)
          case atStart => exact ⟨0, _, Nat.zero_le _, rfl, hB, fun _ => rfl, hX⟩
          case round =>
            clear hB hX c1 c2 c3 c4 c5 c6 c7 b0 b1 b2 b3 b4 b5 lwb lbb
            obtain ⟨j, T, hj, rfl, hB, hTn, hX⟩ := hrel
            obtain ⟨⟨c1, c2, c3, c4, c5, c6, c7⟩, ⟨b0, b1, b2, b3, b4, b5⟩, lwb, lbb⟩ := hX.cells
            rw [HA.out.1] at c1
            rw [HA.out.2.1] at c2
            rw [HA.out.2.2.1] at c3
            rw [HA.out.2.2.2.1] at c4
            rw [HA.out.2.2.2.2.1] at c5
            rw [HA.out.2.2.2.2.2.1] at c6
            rw [HA.out.2.2.2.2.2.2] at c7
            by_cases hlt : j < x.fl.n
            · obtain ⟨e, he⟩ : ∃ e, x.fl.l[j]? = some e := ⟨x.fl.l[j]'(by rw [HX.out.fl.len]; exact hlt), List.getElem?_eq_getElem _⟩
              obtain ⟨gb, go, hga, hgc⟩ := HX.out.fl.one he
              obtain rfl : af = some ⟨gb, go, none⟩ := HA.out.2.2.2.2.2.1.symm.trans hga
              obtain ⟨hgl, hgc⟩ := hgc _ hB.fr0
              have k0 : wr.cell? ⟨gb, go + j * 5, none⟩ = some (.int .i64 e.proto) := hgc 0 _ rfl
              have k1 : wr.cell? ⟨gb, go + j * 5 + 1, none⟩ = some (.int .u32 e.src) := hgc 1 _ rfl
              have k2 : wr.cell? ⟨gb, go + j * 5 + 2, none⟩ = some (.int .u32 e.dst) := hgc 2 _ rfl
              have k3 : wr.cell? ⟨gb, go + j * 5 + 3, none⟩ = some (.int .i64 e.sport) := hgc 3 _ rfl
              have k4 : wr.cell? ⟨gb, go + j * 5 + 4, none⟩ = some (.int .i64 e.dport) := hgc 4 _ rfl
              have j0 : (0 : Int) ≤ j := by omega
              have j1 : (j : Int) < x.fl.n := by omega
              clear hgc he hga
              have hBn := hB.alloc (.cells #[.int .i64 e.proto, .int .u32 e.src, .int .u32 e.dst, .int .i64 e.sport, .int .i64 e.dport] 31)
              have hXn := hX.fr ((Fr.refl [] wr).alloc (.cells #[.int .i64 e.proto, .int .u32 e.src, .int .u32 e.dst, .int .i64 e.sport, .int .i64 e.dport] 31))
              have hE := heap_new wr (.cells #[.int .i64 e.proto, .int .u32 e.src, .int .u32 e.dst, .int .i64 e.sport, .int .i64 e.dport] 31)
              by_cases hW : j < x.wh.n
              · obtain ⟨vW, hvW⟩ : ∃ v, x.wh.l[j]? = some v := ⟨x.wh.l[j]'(by rw [HX.out.wh.len]; exact hW), List.getElem?_eq_getElem _⟩
                have jW : (j : Int) < x.wh.n := by omega
                obtain ⟨uW, oW, ha, hc⟩ := HX.out.wh.one hvW
                obtain rfl : aw = some ⟨uW, oW, none⟩ := HA.out.2.2.2.2.2.2.symm.trans ha
                have HCW := Lib.hid hc
                have HVW := Lib.hid hvW
                clear ha hc hvW
                go_wp2
                obtain ⟨xb, hxb⟩ : ∃ xb, wr.heap.size = xb := ⟨_, rfl⟩
                obtain ⟨w1, hw1⟩ : ∃ w1, w1 = wr.alloc (.cells #[.int .i64 e.proto, .int .u32 e.src, .int .u32 e.dst, .int .i64 e.sport, .int .i64 e.dport] 31) := ⟨_, rfl⟩
                rw [← hw1] at hBn hXn hE ⊢
                rw [hxb] at hBn hE ⊢
                clear hB hX hw1 hxb
                have hB := hBn
                have hX := hXn
                clear hBn hXn
                clear c1 c2 c3 c4 c5 c6 c7 b0 b1 b2 b3 b4 b5 lwb lbb
                obtain ⟨⟨c1, c2, c3, c4, c5, c6, c7⟩, ⟨b0, b1, b2, b3, b4, b5⟩, lwb, lbb⟩ := hX.cells
                rw [HA.out.1] at c1
                rw [HA.out.2.1] at c2
                rw [HA.out.2.2.1] at c3
                rw [HA.out.2.2.2.1] at c4
                rw [HA.out.2.2.2.2.1] at c5
                rw [HA.out.2.2.2.2.2.1] at c6
                rw [HA.out.2.2.2.2.2.2] at c7
                have lxb := lt_of hE
                obtain ⟨d0, d1, d2, d3, d4⟩ := flow_cells hE
                obtain ⟨hlW, hc⟩ := HCW.out _ hB.fr0
                have aW := hc 0 _ rfl
                simp only [Nat.mul_one, Nat.add_zero] at aW
                clear hc
                refine wp_region_zed (P := Tryz.prog) (fun wz => Fr [] w1 wz) 8 (by kernel_rfl) ?_ (fun hS => ?_)
                · exact (Fr.refl [] _).drew
                refine wpAnyZ_take (i := 0) (oi := { dst := some 149, op := Go.Op.fieldAddr 43 (Go.Operand.tmp 4) 0, type := 0, pos := "law.go:68", after := #[], guard := none }) (v := _) rfl (by kernel_rfl) (by kernel_rfl) (by kernel_rfl) (by kernel_rfl) (by kernel_rfl) (fun _ _ _ h => h) (Or.inl ⟨by rfl, by (intro w' hSw; (try dsimp only at hSw); go_simp); (try (with_reducible rfl))⟩) (by assumption) ?_
                simp only [Act.put, List.setIfInBounds_toArray, List.set_cons_zero, List.set_cons_succ]
                refine wpAnyZ_take (i := 1) (oi := { dst := some 150, op := Go.Op.load 36 (Go.Operand.tmp 149), type := 36, pos := "law.go:68", after := #[{ on := 0, ground := Go.Ground.data }], guard := none }) (v := _) rfl (by kernel_rfl) (by kernel_rfl) (by kernel_rfl) (by kernel_rfl) (by kernel_rfl) (fun _ _ _ h => h) (Or.inl ⟨by rfl, by (intro w' hSw; have yb0 := (hSw.cell (a := ⟨bb, 0, none⟩) lbb (by simp)).trans b0; have yx0 := (hSw.cell (a := ⟨xb, 0, none⟩) lxb (by simp)).trans d0; have yx1 := (hSw.cell (a := ⟨xb, 1, none⟩) lxb (by simp)).trans d1; have yx2 := (hSw.cell (a := ⟨xb, 2, none⟩) lxb (by simp)).trans d2; have yx3 := (hSw.cell (a := ⟨xb, 3, none⟩) lxb (by simp)).trans d3; have yx4 := (hSw.cell (a := ⟨xb, 4, none⟩) lxb (by simp)).trans d4; have yw7 := (hSw.cell (a := ⟨wb, 7, none⟩) lwb (by simp)).trans c7; have yu := (hSw.cell (a := ⟨uW, oW + j, none⟩) hlW (by simp)).trans aW; (try dsimp only at hSw); go_simp); (try (with_reducible rfl))⟩) (by assumption) ?_
                simp only [Act.put, List.setIfInBounds_toArray, List.set_cons_zero, List.set_cons_succ]
                refine wpAnyZ_take (i := 2) (oi := { dst := some 151, op := Go.Op.load 31 (Go.Operand.tmp 10), type := 31, pos := "law.go:68", after := #[], guard := none }) (v := _) rfl (by kernel_rfl) (by kernel_rfl) (by kernel_rfl) (by kernel_rfl) (by kernel_rfl) (fun _ _ _ h => h) (Or.inl ⟨by rfl, by (intro w' hSw; have yb0 := (hSw.cell (a := ⟨bb, 0, none⟩) lbb (by simp)).trans b0; have yx0 := (hSw.cell (a := ⟨xb, 0, none⟩) lxb (by simp)).trans d0; have yx1 := (hSw.cell (a := ⟨xb, 1, none⟩) lxb (by simp)).trans d1; have yx2 := (hSw.cell (a := ⟨xb, 2, none⟩) lxb (by simp)).trans d2; have yx3 := (hSw.cell (a := ⟨xb, 3, none⟩) lxb (by simp)).trans d3; have yx4 := (hSw.cell (a := ⟨xb, 4, none⟩) lxb (by simp)).trans d4; have yw7 := (hSw.cell (a := ⟨wb, 7, none⟩) lwb (by simp)).trans c7; have yu := (hSw.cell (a := ⟨uW, oW + j, none⟩) hlW (by simp)).trans aW; (try dsimp only at hSw); go_simp); (try (with_reducible rfl))⟩) (by assumption) ?_
                simp only [Act.put, List.setIfInBounds_toArray, List.set_cons_zero, List.set_cons_succ]
                refine wpAnyZ_take (i := 3) (oi := { dst := some 152, op := Go.Op.fieldAddr 28 (Go.Operand.tmp 1) 7, type := 0, pos := "law.go:68", after := #[], guard := none }) (v := _) rfl (by kernel_rfl) (by kernel_rfl) (by kernel_rfl) (by kernel_rfl) (by kernel_rfl) (fun _ _ _ h => h) (Or.inl ⟨by rfl, by (intro w' hSw; (try dsimp only at hSw); go_simp); (try (with_reducible rfl))⟩) (by assumption) ?_
                simp only [Act.put, List.setIfInBounds_toArray, List.set_cons_zero, List.set_cons_succ]
                refine wpAnyZ_take (i := 4) (oi := { dst := some 153, op := Go.Op.load 25 (Go.Operand.tmp 152), type := 25, pos := "law.go:68", after := #[{ on := 3, ground := Go.Ground.data }], guard := none }) (v := _) rfl (by kernel_rfl) (by kernel_rfl) (by kernel_rfl) (by kernel_rfl) (by kernel_rfl) (fun _ _ _ h => h) (Or.inl ⟨by rfl, by (intro w' hSw; have yb0 := (hSw.cell (a := ⟨bb, 0, none⟩) lbb (by simp)).trans b0; have yx0 := (hSw.cell (a := ⟨xb, 0, none⟩) lxb (by simp)).trans d0; have yx1 := (hSw.cell (a := ⟨xb, 1, none⟩) lxb (by simp)).trans d1; have yx2 := (hSw.cell (a := ⟨xb, 2, none⟩) lxb (by simp)).trans d2; have yx3 := (hSw.cell (a := ⟨xb, 3, none⟩) lxb (by simp)).trans d3; have yx4 := (hSw.cell (a := ⟨xb, 4, none⟩) lxb (by simp)).trans d4; have yw7 := (hSw.cell (a := ⟨wb, 7, none⟩) lwb (by simp)).trans c7; have yu := (hSw.cell (a := ⟨uW, oW + j, none⟩) hlW (by simp)).trans aW; (try dsimp only at hSw); go_simp); (try (with_reducible rfl))⟩) (by assumption) ?_
                simp only [Act.put, List.setIfInBounds_toArray, List.set_cons_zero, List.set_cons_succ]
                refine wpAnyZ_take (i := 5) (oi := { dst := some 154, op := Go.Op.move (Go.Operand.tmp 9), type := 3, pos := "law.go:68", after := #[], guard := none }) (v := _) rfl (by kernel_rfl) (by kernel_rfl) (by kernel_rfl) (by kernel_rfl) (by kernel_rfl) (fun _ _ _ h => h) (Or.inl ⟨by rfl, by (intro w' hSw; (try dsimp only at hSw); go_simp); (try (with_reducible rfl))⟩) (by assumption) ?_
                simp only [Act.put, List.setIfInBounds_toArray, List.set_cons_zero, List.set_cons_succ]
                refine wpAnyZ_take (i := 6) (oi := { dst := some 155, op := Go.Op.indexAddr 25 (Go.Operand.tmp 153) (Go.Operand.tmp 154), type := 0, pos := "law.go:68", after := #[{ on := 4, ground := Go.Ground.data }, { on := 5, ground := Go.Ground.data }], guard := none }) (v := _) rfl (by kernel_rfl) (by kernel_rfl) (by kernel_rfl) (by kernel_rfl) (by kernel_rfl) (fun _ _ _ h => h) (Or.inl ⟨by rfl, by (intro w' hSw; (try dsimp only at hSw); go_simp); (try (with_reducible rfl))⟩) (by assumption) ?_
                simp only [Act.put, List.setIfInBounds_toArray, List.set_cons_zero, List.set_cons_succ]
                refine wpAnyZ_take (i := 7) (oi := { dst := some 156, op := Go.Op.load 3 (Go.Operand.tmp 155), type := 3, pos := "law.go:68", after := #[{ on := 6, ground := Go.Ground.data }], guard := none }) (v := _) rfl (by kernel_rfl) (by kernel_rfl) (by kernel_rfl) (by kernel_rfl) (by kernel_rfl) (fun _ _ _ h => h) (Or.inl ⟨by rfl, by (intro w' hSw; have yb0 := (hSw.cell (a := ⟨bb, 0, none⟩) lbb (by simp)).trans b0; have yx0 := (hSw.cell (a := ⟨xb, 0, none⟩) lxb (by simp)).trans d0; have yx1 := (hSw.cell (a := ⟨xb, 1, none⟩) lxb (by simp)).trans d1; have yx2 := (hSw.cell (a := ⟨xb, 2, none⟩) lxb (by simp)).trans d2; have yx3 := (hSw.cell (a := ⟨xb, 3, none⟩) lxb (by simp)).trans d3; have yx4 := (hSw.cell (a := ⟨xb, 4, none⟩) lxb (by simp)).trans d4; have yw7 := (hSw.cell (a := ⟨wb, 7, none⟩) lwb (by simp)).trans c7; have yu := (hSw.cell (a := ⟨uW, oW + j, none⟩) hlW (by simp)).trans aW; (try dsimp only at hSw); go_simp); (try (with_reducible rfl))⟩) (by assumption) ?_
                simp only [Act.put, List.setIfInBounds_toArray, List.set_cons_zero, List.set_cons_succ]
                refine wpAnyZ_ready (rs := [8]) (by kernel_rfl) (by simp) ?_
                refine ZedOne.last (o := { dst := some 157, op := Go.Op.call { callee := Go.Callee.value (Go.Operand.func 35), args := #[Go.Operand.tmp 150, Go.Operand.tmp 151, Go.Operand.tmp 156, Go.Operand.const (Go.Value.int Go.IntKind.i64 0)], argTypes := #[36, 31, 3, 3] }, type := 50, pos := "law.go:68", after := #[{ on := 1, ground := Go.Ground.data }, { on := 2, ground := Go.Ground.data }, { on := 7, ground := Go.Ground.data }], guard := none }) rfl (fun K hK => ?_)
                go_simp
                refine (both_put hB.drew e vW 0).mono ?_
                rintro en w2 ⟨⟨y2, rfl⟩, ⟨Tn, hBn⟩, hT⟩
                dsimp only
                refine hK.out _ _ ?_
                clear hK K hS
                (try simp only [Act.put, List.setIfInBounds_toArray, List.set_cons_zero, List.set_cons_succ])
                refine wpAnyZ_done (by kernel_rfl) ?_ _
                rotate_left 1
                have hXn := hX.kept hT (by simp) (by simp) (by simp)
                have hEn := hT.at hE (by simp)
                clear hB hX hE hT d0 d1 d2 d3 d4 lxb c1 c2 c3 c4 c5 c6 c7 b0 b1 b2 b3 b4 b5 lwb lbb
                have hB := hBn
                have hX := hXn
                have hE := hEn
                clear hBn hXn hEn
                obtain ⟨⟨c1, c2, c3, c4, c5, c6, c7⟩, ⟨b0, b1, b2, b3, b4, b5⟩, lwb, lbb⟩ := hX.cells
                rw [HA.out.1] at c1
                rw [HA.out.2.1] at c2
                rw [HA.out.2.2.1] at c3
                rw [HA.out.2.2.2.1] at c4
                rw [HA.out.2.2.2.2.1] at c5
                rw [HA.out.2.2.2.2.2.1] at c6
                rw [HA.out.2.2.2.2.2.2] at c7
                have lxb := lt_of hE
                obtain ⟨d0, d1, d2, d3, d4⟩ := flow_cells hE
                clear aW hlW
                obtain ⟨hlW, hc⟩ := HCW.out _ hB.fr0
                have aW := hc 0 _ rfl
                simp only [Nat.mul_one, Nat.add_zero] at aW
                clear hc
                go_wp2
                refine wp_region_zed (P := Tryz.prog) (fun wz => Fr [] w2 wz) 8 (by kernel_rfl) ?_ (fun hS => ?_)
                · exact (Fr.refl [] _).drew
                refine wpAnyZ_take (i := 0) (oi := { dst := some 158, op := Go.Op.fieldAddr 43 (Go.Operand.tmp 4) 3, type := 0, pos := "law.go:69", after := #[], guard := none }) (v := _) rfl (by kernel_rfl) (by kernel_rfl) (by kernel_rfl) (by kernel_rfl) (by kernel_rfl) (fun _ _ _ h => h) (Or.inl ⟨by rfl, by (intro w' hSw; (try dsimp only at hSw); go_simp); (try (with_reducible rfl))⟩) (by assumption) ?_
                simp only [Act.put, List.setIfInBounds_toArray, List.set_cons_zero, List.set_cons_succ]
                refine wpAnyZ_take (i := 1) (oi := { dst := some 159, op := Go.Op.load 39 (Go.Operand.tmp 158), type := 39, pos := "law.go:69", after := #[{ on := 0, ground := Go.Ground.data }], guard := none }) (v := _) rfl (by kernel_rfl) (by kernel_rfl) (by kernel_rfl) (by kernel_rfl) (by kernel_rfl) (fun _ _ _ h => h) (Or.inl ⟨by rfl, by (intro w' hSw; have yb3 := (hSw.cell (a := ⟨bb, 3, none⟩) lbb (by simp)).trans b3; have yx0 := (hSw.cell (a := ⟨xb, 0, none⟩) lxb (by simp)).trans d0; have yx1 := (hSw.cell (a := ⟨xb, 1, none⟩) lxb (by simp)).trans d1; have yx2 := (hSw.cell (a := ⟨xb, 2, none⟩) lxb (by simp)).trans d2; have yx3 := (hSw.cell (a := ⟨xb, 3, none⟩) lxb (by simp)).trans d3; have yx4 := (hSw.cell (a := ⟨xb, 4, none⟩) lxb (by simp)).trans d4; have yw7 := (hSw.cell (a := ⟨wb, 7, none⟩) lwb (by simp)).trans c7; have yu := (hSw.cell (a := ⟨uW, oW + j, none⟩) hlW (by simp)).trans aW; (try dsimp only at hSw); go_simp); (try (with_reducible rfl))⟩) (by assumption) ?_
                simp only [Act.put, List.setIfInBounds_toArray, List.set_cons_zero, List.set_cons_succ]
                refine wpAnyZ_take (i := 2) (oi := { dst := some 160, op := Go.Op.load 31 (Go.Operand.tmp 10), type := 31, pos := "law.go:69", after := #[], guard := none }) (v := _) rfl (by kernel_rfl) (by kernel_rfl) (by kernel_rfl) (by kernel_rfl) (by kernel_rfl) (fun _ _ _ h => h) (Or.inl ⟨by rfl, by (intro w' hSw; have yb3 := (hSw.cell (a := ⟨bb, 3, none⟩) lbb (by simp)).trans b3; have yx0 := (hSw.cell (a := ⟨xb, 0, none⟩) lxb (by simp)).trans d0; have yx1 := (hSw.cell (a := ⟨xb, 1, none⟩) lxb (by simp)).trans d1; have yx2 := (hSw.cell (a := ⟨xb, 2, none⟩) lxb (by simp)).trans d2; have yx3 := (hSw.cell (a := ⟨xb, 3, none⟩) lxb (by simp)).trans d3; have yx4 := (hSw.cell (a := ⟨xb, 4, none⟩) lxb (by simp)).trans d4; have yw7 := (hSw.cell (a := ⟨wb, 7, none⟩) lwb (by simp)).trans c7; have yu := (hSw.cell (a := ⟨uW, oW + j, none⟩) hlW (by simp)).trans aW; (try dsimp only at hSw); go_simp); (try (with_reducible rfl))⟩) (by assumption) ?_
                simp only [Act.put, List.setIfInBounds_toArray, List.set_cons_zero, List.set_cons_succ]
                refine wpAnyZ_take (i := 3) (oi := { dst := some 161, op := Go.Op.fieldAddr 28 (Go.Operand.tmp 1) 7, type := 0, pos := "law.go:69", after := #[], guard := none }) (v := _) rfl (by kernel_rfl) (by kernel_rfl) (by kernel_rfl) (by kernel_rfl) (by kernel_rfl) (fun _ _ _ h => h) (Or.inl ⟨by rfl, by (intro w' hSw; (try dsimp only at hSw); go_simp); (try (with_reducible rfl))⟩) (by assumption) ?_
                simp only [Act.put, List.setIfInBounds_toArray, List.set_cons_zero, List.set_cons_succ]
                refine wpAnyZ_take (i := 4) (oi := { dst := some 162, op := Go.Op.load 25 (Go.Operand.tmp 161), type := 25, pos := "law.go:69", after := #[{ on := 3, ground := Go.Ground.data }], guard := none }) (v := _) rfl (by kernel_rfl) (by kernel_rfl) (by kernel_rfl) (by kernel_rfl) (by kernel_rfl) (fun _ _ _ h => h) (Or.inl ⟨by rfl, by (intro w' hSw; have yb3 := (hSw.cell (a := ⟨bb, 3, none⟩) lbb (by simp)).trans b3; have yx0 := (hSw.cell (a := ⟨xb, 0, none⟩) lxb (by simp)).trans d0; have yx1 := (hSw.cell (a := ⟨xb, 1, none⟩) lxb (by simp)).trans d1; have yx2 := (hSw.cell (a := ⟨xb, 2, none⟩) lxb (by simp)).trans d2; have yx3 := (hSw.cell (a := ⟨xb, 3, none⟩) lxb (by simp)).trans d3; have yx4 := (hSw.cell (a := ⟨xb, 4, none⟩) lxb (by simp)).trans d4; have yw7 := (hSw.cell (a := ⟨wb, 7, none⟩) lwb (by simp)).trans c7; have yu := (hSw.cell (a := ⟨uW, oW + j, none⟩) hlW (by simp)).trans aW; (try dsimp only at hSw); go_simp); (try (with_reducible rfl))⟩) (by assumption) ?_
                simp only [Act.put, List.setIfInBounds_toArray, List.set_cons_zero, List.set_cons_succ]
                refine wpAnyZ_take (i := 5) (oi := { dst := some 163, op := Go.Op.move (Go.Operand.tmp 9), type := 3, pos := "law.go:69", after := #[], guard := none }) (v := _) rfl (by kernel_rfl) (by kernel_rfl) (by kernel_rfl) (by kernel_rfl) (by kernel_rfl) (fun _ _ _ h => h) (Or.inl ⟨by rfl, by (intro w' hSw; (try dsimp only at hSw); go_simp); (try (with_reducible rfl))⟩) (by assumption) ?_
                simp only [Act.put, List.setIfInBounds_toArray, List.set_cons_zero, List.set_cons_succ]
                refine wpAnyZ_take (i := 6) (oi := { dst := some 164, op := Go.Op.indexAddr 25 (Go.Operand.tmp 162) (Go.Operand.tmp 163), type := 0, pos := "law.go:69", after := #[{ on := 4, ground := Go.Ground.data }, { on := 5, ground := Go.Ground.data }], guard := none }) (v := _) rfl (by kernel_rfl) (by kernel_rfl) (by kernel_rfl) (by kernel_rfl) (by kernel_rfl) (fun _ _ _ h => h) (Or.inl ⟨by rfl, by (intro w' hSw; (try dsimp only at hSw); go_simp); (try (with_reducible rfl))⟩) (by assumption) ?_
                simp only [Act.put, List.setIfInBounds_toArray, List.set_cons_zero, List.set_cons_succ]
                refine wpAnyZ_take (i := 7) (oi := { dst := some 165, op := Go.Op.load 3 (Go.Operand.tmp 164), type := 3, pos := "law.go:69", after := #[{ on := 6, ground := Go.Ground.data }], guard := none }) (v := _) rfl (by kernel_rfl) (by kernel_rfl) (by kernel_rfl) (by kernel_rfl) (by kernel_rfl) (fun _ _ _ h => h) (Or.inl ⟨by rfl, by (intro w' hSw; have yb3 := (hSw.cell (a := ⟨bb, 3, none⟩) lbb (by simp)).trans b3; have yx0 := (hSw.cell (a := ⟨xb, 0, none⟩) lxb (by simp)).trans d0; have yx1 := (hSw.cell (a := ⟨xb, 1, none⟩) lxb (by simp)).trans d1; have yx2 := (hSw.cell (a := ⟨xb, 2, none⟩) lxb (by simp)).trans d2; have yx3 := (hSw.cell (a := ⟨xb, 3, none⟩) lxb (by simp)).trans d3; have yx4 := (hSw.cell (a := ⟨xb, 4, none⟩) lxb (by simp)).trans d4; have yw7 := (hSw.cell (a := ⟨wb, 7, none⟩) lwb (by simp)).trans c7; have yu := (hSw.cell (a := ⟨uW, oW + j, none⟩) hlW (by simp)).trans aW; (try dsimp only at hSw); go_simp); (try (with_reducible rfl))⟩) (by assumption) ?_
                simp only [Act.put, List.setIfInBounds_toArray, List.set_cons_zero, List.set_cons_succ]
                refine wpAnyZ_ready (rs := [8]) (by kernel_rfl) (by simp) ?_
                refine ZedOne.last (o := { dst := some 166, op := Go.Op.call { callee := Go.Callee.value (Go.Operand.func 36), args := #[Go.Operand.tmp 159, Go.Operand.tmp 160, Go.Operand.tmp 165, Go.Operand.const (Go.Value.int Go.IntKind.i64 0)], argTypes := #[39, 31, 3, 3] }, type := 91, pos := "law.go:69", after := #[{ on := 1, ground := Go.Ground.data }, { on := 2, ground := Go.Ground.data }, { on := 7, ground := Go.Ground.data }], guard := none }) rfl (fun K hK => ?_)
                go_simp
                refine (both_uput hB.drew e vW 0).mono ?_
                rintro en w3 ⟨⟨y3, rfl⟩, hBn, hT⟩
                dsimp only
                refine hK.out _ _ ?_
                clear hK K hS
                (try simp only [Act.put, List.setIfInBounds_toArray, List.set_cons_zero, List.set_cons_succ])
                refine wpAnyZ_done (by kernel_rfl) ?_ _
                rotate_left 1
                have hXn := hX.kept hT (by simp) (by simp) (by simp)
                have hEn := hT.at hE (by simp)
                clear hB hX hE hT d0 d1 d2 d3 d4 lxb c1 c2 c3 c4 c5 c6 c7 b0 b1 b2 b3 b4 b5 lwb lbb
                have hB := hBn
                have hX := hXn
                have hE := hEn
                clear hBn hXn hEn
                obtain ⟨⟨c1, c2, c3, c4, c5, c6, c7⟩, ⟨b0, b1, b2, b3, b4, b5⟩, lwb, lbb⟩ := hX.cells
                rw [HA.out.1] at c1
                rw [HA.out.2.1] at c2
                rw [HA.out.2.2.1] at c3
                rw [HA.out.2.2.2.1] at c4
                rw [HA.out.2.2.2.2.1] at c5
                rw [HA.out.2.2.2.2.2.1] at c6
                rw [HA.out.2.2.2.2.2.2] at c7
                have lxb := lt_of hE
                obtain ⟨d0, d1, d2, d3, d4⟩ := flow_cells hE
                go_wp2
                refine ⟨⟨j + 1, _, ?_, ?_, hB.sub (by simp), ?_, hX⟩, ?_⟩
                · omega
                · go_num
                · exact fun h => absurd h (by omega)
                · simp [intOf]
                  omega
              · go_wp2
                refine ⟨⟨j + 1, _, ?_, ?_, hBn.sub (by simp), ?_, hXn⟩, ?_⟩
                · omega
                · go_num
                · exact fun h => absurd h (by omega)
                · simp [intOf]
                  omega
            · obtain rfl : j = x.fl.n := by omega
              obtain ⟨⟨r0, r1, r2, r3, r4, r5⟩, s0, s1, s2, s3, s4, s5⟩ := six_cells hX.rb
              have lrb := lt_of hX.rb
              obtain ⟨g1, g2, g3⟩ := HR.out
              go_wp2
              refine bodyPost_ret (v := .agg (bcell t p s u q r)) (by simp [results, Tryz.results7, go_sem, lrb, bcell, r0, r1, r2, r3, r4, r5]) rfl ?_
              exact ⟨t, p, s, u, q, r, T, rfl, (hB.free (G := [rb]) (by (repeat (first | (with_reducible exact Fr.refl _ _) | (with_reducible assumption) | (with_reducible refine Fr.drew ?_) | (with_reducible refine Fr.drewN ?_ _) | (with_reducible refine Fr.alloc ?_ _) | (with_reducible refine Fr.mput ?_ _ _ _ (.inl (by simp))) | (with_reducible refine Fr.mdel ?_ _ _ (.inl (by simp))) | (with_reducible refine Fr.set ?_ _ _ (.inr (by first | omega | (dsimp only; omega)))) | (with_reducible refine Fr.set ?_ _ _ (.inl (by simp)))))) (by simp; omega)).sub (by simp), hTn⟩
end Go.Proofs.YthahlimmmnmniaaGreatDoor

namespace Go.Proofs.YthahlimmmnmniaaGreatDoor
open Go.RowKit Go.Fw

theorem pget_mem {P : PoolT} (ok : POk P) {k : Int} (hk : k ∈ keysOf P.l) : (pget P k).id = k ∧ aget P.l k = some (pget P k) := by
  obtain ⟨m, hm⟩ := keys_mem hk
  have h1 := (ok.2 _ (aget_mem hm)).1
  have h2 : pget P k = m := by unfold pget; rw [hm]; rfl
  rw [h2]
  exact ⟨h1.symm, hm⟩
theorem elig_mem {P : PoolT} (ok : POk P) {m : Mem} (h : m ∈ eligible P) : pget P m.id = m ∧ aget P.l m.id = some m ∧ elig m = true := by
  unfold eligible at h
  obtain ⟨h1, h2⟩ := List.mem_filter.1 h
  obtain ⟨k, hk, rfl⟩ := List.mem_map.1 h1
  obtain ⟨h3, h4⟩ := pget_mem ok hk
  rw [h3]
  exact ⟨rfl, h4, h2⟩
theorem elig_up {m : Mem} (h : elig m = true) : m.up = true := by
  unfold elig at h
  cases hu : m.up with
  | true => rfl
  | false => rw [hu] at h; simp at h

theorem pget_pchange {P : PoolT} (ok : POk P) (id : Int) (g : Mem → Mem) (k : Int) : pget (pchange P id g) k = pget P k ∨ (k = id ∧ aget P.l id = some (pget P id) ∧ pget (pchange P id g) k = g (pget P id)) := by
  unfold pchange
  cases hg : aget P.l id with
  | none => exact .inl rfl
  | some m =>
    by_cases hk : k = id
    · subst hk
      refine .inr ⟨rfl, ?_, ?_⟩
      · unfold pget; rw [hg]; rfl
      · have hn : ∀ l : List (Int × Mem), k ∈ l.map Prod.fst → aget (aput l k (g m)) k = some (g m) := by
          intro l hl
          unfold aput aget
          rw [if_pos hl]
          obtain ⟨p, hp, hpk⟩ := List.mem_map.1 hl
          induction l with
          | nil => cases hp
          | cons a l ih =>
            by_cases ha : a.1 = k
            · simp [ha]
            · have hp' : p ∈ l := by
                rcases List.mem_cons.1 hp with rfl | hp
                · exact absurd hpk ha
                · exact hp
              have := ih (List.mem_map.2 ⟨p, hp', hpk⟩) hp'
              simpa [List.find?_cons, ha] using this
        have h1 := hn P.l (List.mem_map.2 ⟨_, aget_mem hg, rfl⟩)
        unfold pget
        simp only [h1, hg]
        rfl
    · refine .inl ?_
      have hn : aget (aput P.l id (g m)) k = aget P.l k := by
        have hin : id ∈ P.l.map Prod.fst := List.mem_map.2 ⟨_, aget_mem hg, rfl⟩
        unfold aput aget
        rw [if_pos hin]
        generalize P.l = l
        induction l with
        | nil => rfl
        | cons a l ih =>
          by_cases ha : a.1 = id
          · have hak : ¬ a.1 = k := fun e => hk (e.symm.trans ha)
            have hik : ¬ id = k := fun e => hk e.symm
            simp only [List.map_cons, if_pos ha, List.find?_cons, hik, hak, decide_false]
            exact ih
          · by_cases hak : a.1 = k
            · have hki : ¬ k = id := hk
              simp [List.find?_cons, hak, hki]
            · simp only [List.map_cons, if_neg ha, List.find?_cons, hak, decide_false]
              exact ih
      unfold pget
      rw [hn]
theorem up_same {P : PoolT} (ok : POk P) (id : Int) (g : Mem → Mem) (hg : ∀ m, (g m).up = m.up) (k : Int) : (pget (pchange P id g) k).up = (pget P k).up := by
  rcases pget_pchange ok id g k with h | ⟨rfl, _, h⟩
  · rw [h]
  · rw [h, hg]
theorem up_ne {P : PoolT} (ok : POk P) (id : Int) (g : Mem → Mem) (k : Int) (hk : k ≠ id) : (pget (pchange P id g) k).up = (pget P k).up := by
  rcases pget_pchange ok id g k with h | ⟨h, _⟩
  · rw [h]
  · exact absurd h hk
theorem up_off {P : PoolT} (ok : POk P) (id : Int) : (pget (pchange P id fun m => { m with up := false }) id).up = false := by
  unfold pchange
  cases hg : aget P.l id with
  | none => simp only [pget, hg]; rfl
  | some m =>
    rcases pget_pchange ok id (fun m => { m with up := false }) id with h | ⟨_, _, h⟩
    · have h2 := h
      unfold pchange at h2
      rw [hg] at h2
      simp only at h2
      have hin : id ∈ P.l.map Prod.fst := List.mem_map.2 ⟨_, aget_mem hg, rfl⟩
      have hmem : (id, ({ m with up := false } : Mem)) ∈ aput P.l id { m with up := false } := mem_aput.2 (.inl rfl)
      simp only
      obtain ⟨x, hx⟩ : ∃ x, aget (aput P.l id { m with up := false }) id = some x := by
        cases ha : aget (aput P.l id { m with up := false }) id with
        | none =>
          rw [aget_none] at ha
          exact absurd (List.mem_map.2 ⟨_, hmem, rfl⟩) ha
        | some x => exact ⟨x, rfl⟩
      have hx2 := mem_aput.1 (aget_mem hx)
      rcases hx2 with h3 | ⟨_, h3⟩
      · have : x = { m with up := false } := congrArg Prod.snd h3
        unfold pget
        rw [hx, this]
        rfl
      · exact absurd rfl h3
    · unfold pchange at h
      rw [hg] at h
      simp only at h
      simp only
      rw [h]

/-- What the decision says, the sites left aside. -/
def WSaid (T : FTab) (P : PoolT) (f : Flow) (v : Verd) : Prop :=
  KnownSaid T P f v true ∨ ((∃ v1, KnownSaid T P f v1 false) ∧ (LocalSaid P f v true ∨ ((∃ v2, LocalSaid P f v2 false) ∧ v.kind ≠ 1)))
theorem WSaid.of {T : FTab} {P : PoolT} {S : SibT} {f : Flow} {now : Int} {tun : Bool} {v : Verd} (h : WouldSaid T P S f now tun v) : WSaid T P f v := by
  rcases h with h | ⟨h1, h | ⟨h2, h⟩⟩
  · exact .inl h
  · exact .inr ⟨h1, .inl h⟩
  · refine .inr ⟨h1, .inr ⟨h2, ?_⟩⟩
    rcases h with (⟨_, _, x, _, _, rfl⟩ | ⟨h, _⟩) | ⟨_, rfl⟩
    · show (2 : Int) ≠ 1
      decide
    · cases h
    · show (0 : Int) ≠ 1
      decide

theorem BothAt.bal {w0 W : World} {t p s u q r : Nat} {F : List Nat} {T : FTab} {P : PoolT} (h : BothAt w0 W t p s u q r F T P) :
    ∃ O pb sm rm S, BalAt W t O T p pb P s sm rm S ∧ ∀ W' R, FlowsPost W t O R W' → ∃ T', R T' ∧ BothAt w0 W' t p s u q r F T' P ∧ Kept F W W' := by
  have h' := h
  obtain ⟨O, pb, sm, rm, S, v, l, qv, ql, rv, rl, col, hb, hu, hq, hv, hc, h0⟩ := h
  refine ⟨O, pb, sm, rm, S, hb, fun W' R hp => ?_⟩
  obtain ⟨O', T', hb', hn, hf, hR⟩ := hb.after hp
  obtain ⟨l1, l2, l3⟩ := hb.lts
  have hs0 := h0.size
  have keep : ∀ (A : List Nat) (a : Nat), (∀ x ∈ A, col x = a ∧ w0.heap.size ≤ x) → (∀ x ∈ A, x < W.heap.size) → ∀ x ∈ A, (fun x => if x < W.heap.size then col x else 1) x = a ∧ w0.heap.size ≤ x := fun A a h1 h2 x hx => ⟨by simp only [if_pos (h2 x hx)]; exact (h1 x hx).1, (h1 x hx).2⟩
  refine ⟨T', hR, ⟨O', pb, sm, rm, S, v, l, qv, ql, rv, rl, fun x => if x < W.heap.size then col x else 1, hb', hu.fr hf (cols_ne hc.uu hc.o (by decide)), hq.fr hf (cols_ne hc.aa hc.o (by decide)), hv.fr hf (cols_ne hc.bb hc.o (by decide)), ⟨fun x hx => ⟨by simp only [if_pos (hc.f x hx).2]; exact (hc.f x hx).1, Nat.lt_of_lt_of_le (hc.f x hx).2 hf.size⟩, fun x hx => ?_, keep _ _ hc.pp l2, keep _ _ hc.ss l3, keep _ _ hc.uu hu.lt, keep _ _ hc.aa hq.lt, keep _ _ hc.bb hv.lt⟩, h0.trans hf (fun x hx => .inr (hc.o x hx).2)⟩, kept_of hf hc.f hc.o (by decide)⟩
  rcases hn x hx with h | h
  · exact keep _ _ hc.o l1 x h
  · exact ⟨by simp only [if_neg (by omega : ¬ x < W.heap.size)], by omega⟩

def BDecide (w0 W : World) (t p s u q r : Nat) (F : List Nat) (T : FTab) (P : PoolT) (f : Flow) (en : Ending) (W' : World) : Prop :=
  ∃ v : Verd, en = .returned v.val ∧ WSaid T P f v ∧ (∀ a b, Goes T f a → Goes T f b → a = b) ∧ ∃ T', (v.kind = 1 → Goes T' f v.backend) ∧ BothAt w0 W' t p s u q r F T' P ∧ Kept F W W'
theorem both_decide {w0 W : World} {t p s u q r : Nat} {F : List Nat} {T : FTab} {P : PoolT} (h : BothAt w0 W t p s u q r F T P) (f : Flow) (now : Int) (tun : Bool) :
    Calls Tryz.prog 17 #[.pointer (some ⟨t, 0, none⟩), .pointer (some ⟨p, 0, none⟩), .pointer (some ⟨s, 0, none⟩), .agg #[.int .i64 f.proto, .int .u32 f.src, .int .u32 f.dst, .int .i64 f.sport, .int .i64 f.dport], .int .i64 now, .bool tun] W (BDecide w0 W t p s u q r F T P f) := by
  obtain ⟨O, pb, sm, rm, S, hb, hk⟩ := h.bal
  refine (decide_any hb f now tun).mono ?_
  rintro en W' ⟨v, rfl, hs, O', T', h1, h2, h3, h4⟩
  obtain ⟨T'', h5, h6, h7⟩ := hk W' (fun T' => v.kind = 1 → Goes T' f v.backend) ⟨O', T', h1.flows, h2, h3, h4⟩
  exact ⟨v, rfl, WSaid.of hs, fun a b ha hb' => hb.flows.one ha hb', T'', h5, h6, h7⟩

def lightB (x : WArg) : Bool := decide (x.bk.n ≤ 40) && decide (x.st.n ≤ 40) && decide (x.fl.n ≤ 100)
set_option maxHeartbeats 1000000 in
theorem light_any (x : WArg) (w : World) :
    Calls Tryz.prog 5 #[.agg #[.int .i64 x.pct, .slice x.bk.ad x.bk.n x.bk.c, .slice x.up.ad x.up.n x.up.c, .slice x.dr.ad x.dr.n x.dr.c, .slice x.st.ad x.st.n x.st.c, .slice x.cp.ad x.cp.n x.cp.c, .slice x.fl.ad x.fl.n x.fl.c, .slice x.wh.ad x.wh.n x.wh.c]] w fun en w' => en = .returned (.bool (lightB x)) ∧ Fr [] w w' := by
  by_cases h1 : x.bk.n ≤ 40
  · by_cases h2 : x.st.n ≤ 40
    · by_cases h3 : x.fl.n ≤ 100
      · go_enter Tryz.func5, Tryz.ntmps5
        go_wp2
        go_returns
        exact ⟨by simp [lightB, h1, h2, h3] <;> omega, by (repeat (first | (with_reducible exact Fr.refl _ _) | (with_reducible assumption) | (with_reducible refine Fr.drew ?_) | (with_reducible refine Fr.drewN ?_ _) | (with_reducible refine Fr.alloc ?_ _) | (with_reducible refine Fr.mput ?_ _ _ _ (.inl (by simp))) | (with_reducible refine Fr.mdel ?_ _ _ (.inl (by simp))) | (with_reducible refine Fr.set ?_ _ _ (.inr (by first | omega | (dsimp only; omega)))) | (with_reducible refine Fr.set ?_ _ _ (.inl (by simp)))))⟩
      · go_enter Tryz.func5, Tryz.ntmps5
        go_wp2
        go_returns
        exact ⟨by simp [lightB, h1, h2, h3] <;> omega, by (repeat (first | (with_reducible exact Fr.refl _ _) | (with_reducible assumption) | (with_reducible refine Fr.drew ?_) | (with_reducible refine Fr.drewN ?_ _) | (with_reducible refine Fr.alloc ?_ _) | (with_reducible refine Fr.mput ?_ _ _ _ (.inl (by simp))) | (with_reducible refine Fr.mdel ?_ _ _ (.inl (by simp))) | (with_reducible refine Fr.set ?_ _ _ (.inr (by first | omega | (dsimp only; omega)))) | (with_reducible refine Fr.set ?_ _ _ (.inl (by simp)))))⟩
    · go_enter Tryz.func5, Tryz.ntmps5
      go_wp2
      go_returns
      exact ⟨by simp [lightB, h1, h2], by (repeat (first | (with_reducible exact Fr.refl _ _) | (with_reducible assumption) | (with_reducible refine Fr.drew ?_) | (with_reducible refine Fr.drewN ?_ _) | (with_reducible refine Fr.alloc ?_ _) | (with_reducible refine Fr.mput ?_ _ _ _ (.inl (by simp))) | (with_reducible refine Fr.mdel ?_ _ _ (.inl (by simp))) | (with_reducible refine Fr.set ?_ _ _ (.inr (by first | omega | (dsimp only; omega)))) | (with_reducible refine Fr.set ?_ _ _ (.inl (by simp)))))⟩
  · go_enter Tryz.func5, Tryz.ntmps5
    go_wp2
    go_returns
    exact ⟨by simp [lightB, h1], by (repeat (first | (with_reducible exact Fr.refl _ _) | (with_reducible assumption) | (with_reducible refine Fr.drew ?_) | (with_reducible refine Fr.drewN ?_ _) | (with_reducible refine Fr.alloc ?_ _) | (with_reducible refine Fr.mput ?_ _ _ _ (.inl (by simp))) | (with_reducible refine Fr.mdel ?_ _ _ (.inl (by simp))) | (with_reducible refine Fr.set ?_ _ _ (.inr (by first | omega | (dsimp only; omega)))) | (with_reducible refine Fr.set ?_ _ _ (.inl (by simp)))))⟩
end Go.Proofs.YthahlimmmnmniaaGreatDoor

namespace Go.Proofs.YthahlimmmnmniaaGreatDoor
open Go.RowKit Go.Fw

def exPool : PoolT := ⟨1, [(1, ⟨1, 1, 1, true, false⟩)]⟩
def exArg (n : Nat) : WArg := ⟨0, ⟨some ⟨n, 0, none⟩, 1, 1, [(1, 1, 1)]⟩, ⟨some ⟨n + 1, 0, none⟩, 1, 1, [true]⟩, ⟨none, 0, 0, []⟩, ⟨none, 0, 0, []⟩, ⟨none, 0, 0, []⟩, ⟨none, 0, 0, []⟩, ⟨none, 0, 0, []⟩⟩
theorem exPool_of (n : Nat) : poolTo (exArg n) (exArg n).bk.n = exPool := by
  have h : percentOf 0 = 1 := by decide
  simp [exArg, poolTo, poolStep, padd, badB, pchange, aget, aput, h, exPool]
theorem exKeys : keysOf exPool.l = [1] := by simp [keysOf, exPool]
theorem exElig : eligible exPool = [⟨1, 1, 1, true, false⟩] := by
  unfold eligible
  rw [exKeys]
  simp [pget, aget, exPool, elig]
theorem exQuor : quorate exPool = true := by decide
theorem exUp : (pget exPool 1).up = true := by simp [pget, aget, exPool]
theorem exIn (w : World) : WorldIn ((w.alloc (.cells #[.int .i64 1, .int .u32 1, .int .i64 1] 56)).alloc (.cells #[.bool true] 4)) (exArg w.heap.size) := by
  refine ⟨⟨rfl, by simp [exArg], by simp [exArg], fun i e he => ?_⟩, ⟨rfl, by simp [exArg], by simp [exArg], fun i e he => ?_⟩, ⟨rfl, by simp [exArg], by simp [exArg], fun i e he => by simp [exArg] at he⟩, ⟨rfl, by simp [exArg], by simp [exArg], fun i e he => by simp [exArg] at he⟩, ⟨rfl, by simp [exArg], by simp [exArg], fun i e he => by simp [exArg] at he⟩, ⟨rfl, by simp [exArg], by simp [exArg], fun i e he => by simp [exArg] at he⟩, ⟨rfl, by simp [exArg], by simp [exArg], fun i e he => by simp [exArg] at he⟩⟩
  · cases i with
    | succ i => simp [exArg] at he
    | zero =>
      simp [exArg] at he
      subst he
      have hb : ((w.alloc (.cells #[.int .i64 1, .int .u32 1, .int .i64 1] 56)).alloc (.cells #[.bool true] 4)).heap[w.heap.size]? = some (.cells #[.int .i64 1, .int .u32 1, .int .i64 1] 56 (0, 0)) := by
        rw [heap_old _ _ (by simp)]; exact heap_new w _
      refine ⟨w.heap.size, 0, rfl, lt_of hb, fun t v hv => ?_⟩
      rw [Nat.zero_mul, Nat.zero_add]
      exact cell_at hb t (by rw [← List.getElem?_toArray] at hv; exact hv)
  · cases i with
    | succ i => simp [exArg] at he
    | zero =>
      simp [exArg] at he
      subst he
      have hb : ((w.alloc (.cells #[.int .i64 1, .int .u32 1, .int .i64 1] 56)).alloc (.cells #[.bool true] 4)).heap[w.heap.size + 1]? = some (.cells #[.bool true] 4 (0, 0)) := by
        rw [heap_alloc_if, if_pos (by simp)]
      refine ⟨w.heap.size + 1, 0, rfl, lt_of hb, fun t v hv => ?_⟩
      rw [Nat.zero_mul, Nat.zero_add]
      exact cell_at hb t (by rw [← List.getElem?_toArray] at hv; exact hv)

theorem lives_first {T : FTab} {f : Flow} {v : Verd} (h : WSaid T exPool f v) (hT : T.l = []) : v = ⟨1, 1, 0, false⟩ := by
  rcases h with (⟨_, x, ⟨e, he, _⟩, _⟩ | ⟨h, _⟩) | ⟨_, (⟨_, _, m, hm, _, rfl⟩ | ⟨h, _⟩) | ⟨⟨_, h⟩, _⟩⟩
  · rw [hT] at he; cases he
  · cases h
  · rw [exElig] at hm
    simp at hm
    subst hm
    rfl
  · cases h
  · rcases h with ⟨h, _⟩ | ⟨_, h | h⟩
    · cases h
    · rw [exElig] at h; cases h
    · rw [exQuor] at h; cases h
theorem lives_second {T : FTab} {f : Flow} {v : Verd} (h : WSaid T exPool f v) (hg : Goes T f 1) (hone : ∀ a b, Goes T f a → Goes T f b → a = b) : v = ⟨1, 1, 0, true⟩ := by
  rcases h with (⟨_, x, hx, _, rfl⟩ | ⟨h, _⟩) | ⟨⟨_, h⟩, _⟩
  · rw [hone x 1 hx hg]
  · cases h
  · rcases h with ⟨h, _⟩ | ⟨_, h⟩
    · cases h
    · have := h 1 hg
      rw [exUp] at this
      cases this

set_option maxRecDepth 100000 in
set_option maxHeartbeats 4000000 in
theorem lives_any (w : World) : Calls Tryz.prog 6 #[] w fun en w' => en = .returned (.bool true) ∧ Fr [] w w' := by
  have hm := Lib.hid (made_any (exIn w))
  have HP := Lib.hid (exPool_of w.heap.size)
  go_enter Tryz.func6, Tryz.ntmps6
  go_wp2_with fail
  refine hm.out.mono ?_
  rintro en w1 ⟨t, p, s, u, q, r, T, rfl, hB, hT⟩
  have hT0 : T.l = [] := hT rfl
  rw [HP.out] at hB
  unfold bcell
  have hB1 := hB.alloc (.cells (bcell t p s u q r) 43)
  obtain ⟨bb, hbb⟩ : ∃ bb, w1.heap.size = bb := ⟨_, rfl⟩
  have hb1 := heap_new w1 (.cells (bcell t p s u q r) 43)
  unfold bcell at hb1 hB1
  have HT := Lib.hid hT0
  clear hT hB hT0
  go_wp2_with fail
  refine (both_decide hB1 ⟨0, 0, 0, 0, 0⟩ 0 false).mono ?_
  rintro en w2 ⟨v, rfl, hs, _, T', hg, hB2, hK⟩
  obtain rfl := lives_first hs HT.out
  have hb2 := hK.at hb1 (by simp)
  rw [hbb] at hb2 hB2
  clear hs hB1 hb1 hK
  obtain ⟨⟨b0, b1, b2, b3, b4, b5⟩, _⟩ := six_cells hb2
  have lbb := lt_of hb2
  unfold Verd.val
  have hB3 := hB2.alloc (.cells #[.int .i64 1, .int .i64 1, .int .i64 0, .bool false] 46)
  have hx3 := heap_new w2 (.cells #[.int .i64 1, .int .i64 1, .int .i64 0, .bool false] 46)
  have hb3 := ((Fr.refl [] w2).alloc (.cells #[.int .i64 1, .int .i64 1, .int .i64 0, .bool false] 46)).keep hb2 (by simp)
  have H3 := Lib.hid (And.intro hB3 (And.intro hx3 (And.intro hb3 hg)))
  clear hB3 hx3 hb3 hb2 hg hB2
  go_wp2_with fail
  refine (both_decide H3.out.1 ⟨0, 0, 0, 0, 0⟩ 0 false).mono ?_
  rintro en w3 ⟨v, rfl, hs, hone, T'', _, hB4, hK⟩
  obtain rfl := lives_second hs (by first | exact H3.out.2.2.2 trivial | exact H3.out.2.2.2 rfl) hone
  have hx4 := hK.at H3.out.2.1 (by simp)
  obtain ⟨⟨x0, x1, x2, x3⟩, _⟩ := verd_cells hx4
  have lx := lt_of hx4
  have H4 := Lib.hid hB4
  clear hs hone hB4 hK hx4
  unfold Verd.val
  go_wp2_with fail
  refine (text_new _).mono ?_
  rintro e w4 ⟨rfl, hfr⟩
  have hy := hfr.keep (k := w3.heap.size) (o := .cells #[.int .i64 1, .int .i64 1, .int .i64 0, .bool true] 46 (0, 0)) (by (try simp only [heap_drewN, heap_drew, heap_alloc_if, World.size_alloc, World.size_setCell, size_mput, size_mdel]); (first | (simp; done) | (simp [zeroEntry]; done) | (simp; omega) | (simp [zeroEntry]; omega))) (by simp)
  obtain ⟨⟨y0, y1, y2, y3⟩, _⟩ := verd_cells hy
  have ly := lt_of hy
  have H5 := Lib.hid hfr
  clear hfr hy
  go_wp2_with fail
  refine (text_known _).mono ?_
  rintro e w5 ⟨rfl, hfr⟩
  have H6 := Lib.hid hfr
  clear hfr
  go_wp2
  go_ret
  refine ⟨rfl, ?_⟩
  have h4 := H4.out.fr0
  have h5 := H5.out
  have h6 := H6.out
  exact ((Fr.trans (S := []) (a := w) (by (repeat (first | (with_reducible exact Fr.refl _ _) | (with_reducible assumption) | (with_reducible refine Fr.drew ?_) | (with_reducible refine Fr.drewN ?_ _) | (with_reducible refine Fr.alloc ?_ _) | (with_reducible refine Fr.mput ?_ _ _ _ (.inl (by simp))) | (with_reducible refine Fr.mdel ?_ _ _ (.inl (by simp))) | (with_reducible refine Fr.set ?_ _ _ (.inr (by first | omega | (dsimp only; omega)))) | (with_reducible refine Fr.set ?_ _ _ (.inl (by simp)))))) h4 (by simp)).trans (Fr.trans (S := []) (by (repeat (first | (with_reducible exact Fr.refl _ _) | (with_reducible assumption) | (with_reducible refine Fr.drew ?_) | (with_reducible refine Fr.drewN ?_ _) | (with_reducible refine Fr.alloc ?_ _) | (with_reducible refine Fr.mput ?_ _ _ _ (.inl (by simp))) | (with_reducible refine Fr.mdel ?_ _ _ (.inl (by simp))) | (with_reducible refine Fr.set ?_ _ _ (.inr (by first | omega | (dsimp only; omega)))) | (with_reducible refine Fr.set ?_ _ _ (.inl (by simp)))))) h5 (by simp)) (by simp)).trans h6 (by simp)
end Go.Proofs.YthahlimmmnmniaaGreatDoor

namespace Go.Proofs.YthahlimmmnmniaaGreatDoor
open Go.RowKit Go.Fw

theorem said_known {T : FTab} {P : PoolT} {f : Flow} {v : Verd} {b : Int} (h : WSaid T P f v) (hg : Goes T f b) (hup : (pget P b).up = true) (hone : ∀ a b, Goes T f a → Goes T f b → a = b) : v = ⟨1, b, 0, true⟩ := by
  rcases h with (⟨_, x, hx, _, rfl⟩ | ⟨h, _⟩) | ⟨⟨_, h⟩, _⟩
  · rw [hone x b hx hg]
  · cases h
  · rcases h with ⟨h, _⟩ | ⟨_, h⟩
    · cases h
    · have := h b hg
      rw [hup] at this
      cases this
theorem said_up {T : FTab} {P : PoolT} {f : Flow} {v : Verd} (ok : POk P) (h : WSaid T P f v) (hk : v.kind = 1) : (pget P v.backend).up = true := by
  rcases h with (⟨_, x, _, hx, rfl⟩ | ⟨h, _⟩) | ⟨_, (⟨_, _, m, hm, _, rfl⟩ | ⟨h, _⟩) | ⟨_, h⟩⟩
  · exact hx
  · cases h
  · obtain ⟨h1, _, h2⟩ := elig_mem ok hm
    simp only
    rw [h1]
    exact elig_up h2
  · cases h
  · exact absurd hk h
theorem said_off {T : FTab} {P : PoolT} {f : Flow} {v : Verd} {b : Int} (ok : POk P) (h : WSaid T P f v) (hup : (pget P b).up = false) : v.kind ≠ 1 ∨ v.backend ≠ b := by
  by_cases hk : v.kind = 1
  · refine .inr fun e => ?_
    have := said_up ok h hk
    rw [e, hup] at this
    cases this
  · exact .inl hk

def eU8 (x : Int) : List Value := [.int .u8 x]
theorem BothAt.pok {w0 W : World} {t p s u q r : Nat} {F : List Nat} {T : FTab} {P : PoolT} (h : BothAt w0 W t p s u q r F T P) : POk P := by
  obtain ⟨pb, _, h2, _⟩ := h.pool
  exact h2
theorem both_upne {w0 W : World} {t p s u q r : Nat} {F : List Nat} {T : FTab} {P : PoolT} {id k : Int} {g : Mem → Mem} (_ : BothAt w0 W t p s u q r F T (pchange P id g)) (ok : POk P) (hk : k ≠ id) (h : (pget P k).up = true) : (pget (pchange P id g) k).up = true := (up_ne ok id g k hk).trans h
def SRel (w1 : World) (t p s u q r vb bb : Nat) (f : Flow) (v : Verd) (n : Nat) (i : Value) (wr : World) : Prop :=
  ∃ (k : Nat) (T : FTab) (P : PoolT), k ≤ n ∧ i = .int .i64 k ∧ BothAt w1 wr t p s u q r [vb, bb] T P ∧ Goes T f v.backend ∧ (pget P v.backend).up = true ∧
    wr.heap[vb]? = some (.cells #[.int .i64 v.kind, .int .i64 v.backend, .int .i64 v.site, .bool v.known] 46 (0, 0)) ∧ wr.heap[bb]? = some (.cells (bcell t p s u q r) 43 (0, 0))

set_option maxRecDepth 100000 in
set_option maxHeartbeats 8000000 in
theorem sticks_any {w : World} {x : WArg} (hx : WorldIn w x) (f : Flow) {ws : Sl Int} (hws : SlOf w eU8 1 ws) (hu8 : ∀ e ∈ ws.l, 0 ≤ e ∧ e ≤ 255) :
    Calls Tryz.prog 4 #[.agg #[.int .i64 x.pct, .slice x.bk.ad x.bk.n x.bk.c, .slice x.up.ad x.up.n x.up.c, .slice x.dr.ad x.dr.n x.dr.c, .slice x.st.ad x.st.n x.st.c, .slice x.cp.ad x.cp.n x.cp.c, .slice x.fl.ad x.fl.n x.fl.c, .slice x.wh.ad x.wh.n x.wh.c],
      .agg #[.int .i64 f.proto, .int .u32 f.src, .int .u32 f.dst, .int .i64 f.sport, .int .i64 f.dport], .slice ws.ad ws.n ws.c] w fun en w' => en = .returned (.bool true) ∧ Fr [] w w' := by
  have HX := Lib.hid hx
  have HW := Lib.hid (And.intro hws hu8)
  have hwn : ws.n ≤ 9223372036854775807 := Nat.le_trans hws.cap hws.max
  clear hx hws hu8
  obtain ⟨aw, haw⟩ : ∃ a, ws.ad = a := ⟨_, rfl⟩
  rw [haw]
  have HA := Lib.hid haw
  clear haw
  go_enter Tryz.func4, Tryz.ntmps4
  go_wp2_with fail
  refine (light_any x _).mono ?_
  rintro en w1 ⟨rfl, hfr⟩
  have hF1 := Fr.trans (S := []) (a := w) (by (repeat (first | (with_reducible exact Fr.refl _ _) | (with_reducible assumption) | (with_reducible refine Fr.drew ?_) | (with_reducible refine Fr.drewN ?_ _) | (with_reducible refine Fr.alloc ?_ _) | (with_reducible refine Fr.mput ?_ _ _ _ (.inl (by simp))) | (with_reducible refine Fr.mdel ?_ _ _ (.inl (by simp))) | (with_reducible refine Fr.set ?_ _ _ (.inr (by first | omega | (dsimp only; omega)))) | (with_reducible refine Fr.set ?_ _ _ (.inl (by simp)))))) hfr (by simp)
  have hwb := hfr.keep (k := w.heap.size) (o := .cells x.cells 28 (0, 0)) (by rw [heap_alloc_if, if_neg (by simp), heap_alloc_if, if_pos rfl]; rfl) (by simp)
  have hfb := hfr.keep (k := w.heap.size + 1) (o := .cells #[.int .i64 f.proto, .int .u32 f.src, .int .u32 f.dst, .int .i64 f.sport, .int .i64 f.dport] 31 (0, 0)) (by rw [heap_alloc_if, if_pos (by simp)]) (by simp)
  obtain ⟨lb, hlb⟩ : ∃ b, lightB x = b := ⟨_, rfl⟩
  rw [hlb]
  have H1 := Lib.hid (And.intro hF1 (And.intro hwb (And.intro hfb hlb)))
  cases lb with
  | false =>
    clear hF1 hwb hfb hfr hlb
    go_wp2_with fail
    refine (lives_any _).mono ?_
    rintro en w2 ⟨rfl, hfr⟩
    have H2 := Lib.hid hfr
    clear hfr
    go_wp2
    go_ret
    exact ⟨rfl, H1.out.1.trans H2.out (by simp)⟩
  | true =>
    by_cases hlong : 40 < ws.n
    · clear hF1 hwb hfb hfr hlb
      go_wp2_with fail
      refine (lives_any _).mono ?_
      rintro en w2 ⟨rfl, hfr⟩
      have H2 := Lib.hid hfr
      clear hfr
      go_wp2
      go_ret
      exact ⟨rfl, H1.out.1.trans H2.out (by simp)⟩
    · have z0 := cell_at hwb 0 (v := .int .i64 x.pct) rfl
      have z1 := cell_at hwb 1 (v := .slice x.bk.ad x.bk.n x.bk.c) rfl
      have z2 := cell_at hwb 2 (v := .slice x.up.ad x.up.n x.up.c) rfl
      have z3 := cell_at hwb 3 (v := .slice x.dr.ad x.dr.n x.dr.c) rfl
      have z4 := cell_at hwb 4 (v := .slice x.st.ad x.st.n x.st.c) rfl
      have z5 := cell_at hwb 5 (v := .slice x.cp.ad x.cp.n x.cp.c) rfl
      have z6 := cell_at hwb 6 (v := .slice x.fl.ad x.fl.n x.fl.c) rfl
      have z7 := cell_at hwb 7 (v := .slice x.wh.ad x.wh.n x.wh.c) rfl
      clear hF1 hwb hfb hfr hlb
      go_wp2_with fail
      refine (made_any (HX.out.fr H1.out.1)).mono ?_
      rintro en w2 ⟨t, p, s, u, q, r, T, rfl, hB, _⟩
      clear z0 z1 z2 z3 z4 z5 z6 z7
      unfold bcell
      have hB1 := hB.alloc (.cells (bcell t p s u q r) 43)
      obtain ⟨bb, hbb⟩ : ∃ bb, w2.heap.size = bb := ⟨_, rfl⟩
      have hb1 := heap_new w2 (.cells (bcell t p s u q r) 43)
      have hfl := hB.fr0.keep H1.out.2.2.1 (by simp)
      obtain ⟨f0, f1, f2, f3, f4⟩ := flow_cells hfl
      have lfl := lt_of hfl
      clear hB hfl
      unfold bcell at hb1 hB1
      have H2 := Lib.hid (And.intro hB1 (And.intro hb1 hbb))
      clear hB1 hb1 hbb
      go_wp2_with fail
      refine (both_decide H2.out.1 f 0 false).mono ?_
      rintro en w3 ⟨v, rfl, hs, hone, T', hg, hB2, hK⟩
      clear f0 f1 f2 f3 f4 lfl
      have hb2 := hK.at H2.out.2.1 (by simp)
      rw [H2.out.2.2] at hb2 hB2 ⊢
      have hpok := hB2.pok
      have hB3 := hB2.alloc (.cells #[.int .i64 v.kind, .int .i64 v.backend, .int .i64 v.site, .bool v.known] 46)
      have hx3 := heap_new w3 (.cells #[.int .i64 v.kind, .int .i64 v.backend, .int .i64 v.site, .bool v.known] 46)
      have hb3 := ((Fr.refl [] w3).alloc (.cells #[.int .i64 v.kind, .int .i64 v.backend, .int .i64 v.site, .bool v.known] 46)).keep hb2 (by simp)
      obtain ⟨⟨b0, b1, b2, b3, b4, b5⟩, _⟩ := six_cells hb2
      have lbb := lt_of hb2
      unfold Verd.val
      have H3 := Lib.hid (And.intro hB3 (And.intro hx3 (And.intro hb3 (And.intro hs (And.intro hg hpok)))))
      clear hB3 hx3 hb3 hb2 hg hB2 hs hone hK hpok
      by_cases hk : v.kind = 1
      · have hk' : ¬ (v.kind ≠ 1) := by simpa using hk
        have hkb : ((v.kind : Int) != 1) = false := by simp [hk]
        have HK := Lib.hid hk
        clear hk hk'
        go_wp2_with fail
        refine (both_drain H3.out.1 v.backend true).mono ?_
        rintro en w4 ⟨⟨y4, rfl⟩, hB4, hK⟩
        obtain ⟨vb, hvb⟩ : ∃ vb, w3.heap.size = vb := ⟨_, rfl⟩
        have hb4 := hK.at H3.out.2.2.1 (by simp)
        have hx4 := hK.at H3.out.2.1 (by simp)
        rw [hvb] at hx4 hB4 ⊢
        have hup : (pget (pchange (poolTo x x.bk.n) v.backend fun m => { m with drain := true }) v.backend).up = true := by
          exact (up_same H3.out.2.2.2.2.2 v.backend (fun m => { m with drain := true }) (fun _ => rfl) v.backend).trans (said_up H3.out.2.2.2.2.2 H3.out.2.2.2.1 HK.out)
        have hgo := H3.out.2.2.2.2.1 HK.out
        clear hK hvb b0 b1 b2 b3 b4 b5 lbb hkb
        have H4 := Lib.hid (And.intro hB4 (And.intro hgo (And.intro hup (And.intro hx4 hb4))))
        clear hB4 hgo hup hx4 hb4
        go_wp2
        go_loopw [43] (fun i wr => SRel w1 t p s u q r vb bb f v ws.n i wr) (fun i _ => ws.n - (intOf i).toNat)
        case atStart => exact ⟨0, _, _, Nat.zero_le _, rfl, H4.out⟩
        case round =>
          obtain ⟨j, T5, P5, hj, rfl, hB, hg, hup, hxv, hbv⟩ := hrel
          obtain ⟨⟨x0, x1, x2, x3⟩, _⟩ := verd_cells hxv
          obtain ⟨⟨b0, b1, b2, b3, b4, b5⟩, _⟩ := six_cells hbv
          have lvb := lt_of hxv
          have lbb := lt_of hbv
          have hpok := hB.pok
          have HZ := Lib.hid (And.intro hB (And.intro hg (And.intro hup (And.intro hxv (And.intro hbv hpok)))))
          clear hB hg hup hxv hbv hpok
          by_cases hlt : j < ws.n
          · obtain ⟨e, he⟩ : ∃ e, ws.l[j]? = some e := ⟨ws.l[j]'(by rw [HW.out.1.len]; exact hlt), List.getElem?_eq_getElem _⟩
            obtain ⟨e0, e1⟩ := HW.out.2 e (List.mem_of_getElem? he)
            obtain ⟨gb, go, hga, hgc⟩ := HW.out.1.one he
            obtain rfl : aw = some ⟨gb, go, none⟩ := HA.out.symm.trans hga
            obtain ⟨hgl, hgc⟩ := hgc _ (H1.out.1.trans HZ.out.1.fr0 (by simp))
            have k0 := hgc 0 _ rfl
            simp only [Nat.mul_one, Nat.add_zero] at k0
            have j0 : (0 : Int) ≤ j := by omega
            have j1 : (j : Int) < ws.n := by omega
            clear hgc he hga
            go_wp2_with fail
            refine (both_weigh HZ.out.1 j (e % 101) (by omega) (by omega)).mono ?_
            rintro en w6 ⟨⟨y6, rfl⟩, hB, hK⟩
            have hg := HZ.out.2.1
            have hup := (up_same HZ.out.2.2.2.2.2 (j : Int) (fun m => { m with weight := e % 101 }) (fun _ => rfl) v.backend).trans HZ.out.2.2.1
            have hxv := hK.at HZ.out.2.2.2.1 (by simp)
            have hbv := hK.at HZ.out.2.2.2.2.1 (by simp)
            clear hK HZ
            clear x0 x1 x2 x3 b0 b1 b2 b3 b4 b5 lvb lbb
            obtain ⟨⟨x0, x1, x2, x3⟩, _⟩ := verd_cells hxv
            obtain ⟨⟨b0, b1, b2, b3, b4, b5⟩, _⟩ := six_cells hbv
            have lvb := lt_of hxv
            have lbb := lt_of hbv
            have hfl := hB.fr0.keep H1.out.2.2.1 (by simp)
            obtain ⟨f0, f1, f2, f3, f4⟩ := flow_cells hfl
            have lfl := lt_of hfl
            have hpok := hB.pok
            have HZ := Lib.hid (And.intro hB (And.intro hg (And.intro hup (And.intro hxv (And.intro hbv hpok)))))
            clear hB hg hup hxv hbv hpok hfl
            clear k0 hgl
            by_cases hjb : (j : Int) = v.backend
            · have hne : ((j : Int) != v.backend) = false := by simp [hjb]
              clear hjb
              go_wp2_with fail
              refine (both_decide HZ.out.1 f j false).mono ?_
              rintro en w8 ⟨v8, rfl, hs, hone, T8, hg8, hB8, hK⟩
              obtain rfl := said_known hs HZ.out.2.1 HZ.out.2.2.1 hone
              have hx8 := hK.at HZ.out.2.2.2.1 (by simp)
              have hb8 := hK.at HZ.out.2.2.2.2.1 (by simp)
              obtain ⟨⟨u0, u1, u2, u3⟩, _⟩ := verd_cells hx8
              have lvb8 := lt_of hx8
              have HY := Lib.hid (And.intro (hB8.alloc (.cells #[.int .i64 1, .int .i64 v.backend, .int .i64 0, .bool true] 46)) (And.intro (hg8 rfl) (And.intro HZ.out.2.2.1 (And.intro (((Fr.refl [] w8).alloc (.cells #[.int .i64 1, .int .i64 v.backend, .int .i64 0, .bool true] 46)).keep hx8 (by simp)) (((Fr.refl [] w8).alloc (.cells #[.int .i64 1, .int .i64 v.backend, .int .i64 0, .bool true] 46)).keep hb8 (by simp))))))
              clear hs hone hg8 hB8 hK hx8 hb8 x0 x1 x2 x3 b0 b1 b2 b3 b4 b5 lvb lbb f0 f1 f2 f3 f4 lfl
              unfold Verd.val
              go_wp2
              refine ⟨⟨j + 1, _, _, ?_, ?_, HY.out.1.sub (by simp), HY.out.2⟩, ?_⟩
              · omega
              · go_num
              · simp [intOf]
                omega
            · have hne : ((j : Int) != v.backend) = true := by simp [hjb]
              have HJ := Lib.hid hjb
              clear hjb
              go_wp2_with fail
              refine (both_mark HZ.out.1 j _).mono ?_
              rintro en w7 ⟨⟨y7, rfl⟩, hB, hK⟩
              have hg := HZ.out.2.1
              have hup := both_upne hB HZ.out.2.2.2.2.2 (fun e => HJ.out e.symm) HZ.out.2.2.1
              have hxv := hK.at HZ.out.2.2.2.1 (by simp)
              have hbv := hK.at HZ.out.2.2.2.2.1 (by simp)
              clear hK HZ
              clear f0 f1 f2 f3 f4 lfl x0 x1 x2 x3 b0 b1 b2 b3 b4 b5 lvb lbb
              obtain ⟨⟨x0, x1, x2, x3⟩, _⟩ := verd_cells hxv
              obtain ⟨⟨b0, b1, b2, b3, b4, b5⟩, _⟩ := six_cells hbv
              have lvb := lt_of hxv
              have lbb := lt_of hbv
              have hfl := hB.fr0.keep H1.out.2.2.1 (by simp)
              obtain ⟨f0, f1, f2, f3, f4⟩ := flow_cells hfl
              have lfl := lt_of hfl
              have hpok := hB.pok
              have HZ := Lib.hid (And.intro hB (And.intro hg (And.intro hup (And.intro hxv (And.intro hbv hpok)))))
              clear hB hg hup hxv hbv hpok hfl
              go_wp2_with fail
              refine (both_decide HZ.out.1 f j false).mono ?_
              rintro en w8 ⟨v8, rfl, hs, hone, T8, hg8, hB8, hK⟩
              obtain rfl := said_known hs HZ.out.2.1 HZ.out.2.2.1 hone
              have hx8 := hK.at HZ.out.2.2.2.1 (by simp)
              have hb8 := hK.at HZ.out.2.2.2.2.1 (by simp)
              obtain ⟨⟨u0, u1, u2, u3⟩, _⟩ := verd_cells hx8
              have lvb8 := lt_of hx8
              have HY := Lib.hid (And.intro (hB8.alloc (.cells #[.int .i64 1, .int .i64 v.backend, .int .i64 0, .bool true] 46)) (And.intro (hg8 rfl) (And.intro HZ.out.2.2.1 (And.intro (((Fr.refl [] w8).alloc (.cells #[.int .i64 1, .int .i64 v.backend, .int .i64 0, .bool true] 46)).keep hx8 (by simp)) (((Fr.refl [] w8).alloc (.cells #[.int .i64 1, .int .i64 v.backend, .int .i64 0, .bool true] 46)).keep hb8 (by simp))))))
              clear hs hone hg8 hB8 hK hx8 hb8 x0 x1 x2 x3 b0 b1 b2 b3 b4 b5 lvb lbb f0 f1 f2 f3 f4 lfl
              unfold Verd.val
              go_wp2
              refine ⟨⟨j + 1, _, _, ?_, ?_, HY.out.1.sub (by simp), HY.out.2⟩, ?_⟩
              · omega
              · go_num
              · simp [intOf]
                omega
          · obtain rfl : j = ws.n := by omega
            go_wp2_with fail
            refine (both_mark HZ.out.1 v.backend false).mono ?_
            rintro en w6 ⟨⟨y6, rfl⟩, hB, hK⟩
            have hg := HZ.out.2.1
            have hup : (pget (pchange P5 v.backend fun m => { m with up := false }) v.backend).up = false := up_off HZ.out.2.2.2.2.2 v.backend
            have hxv := hK.at HZ.out.2.2.2.1 (by simp)
            have hbv := hK.at HZ.out.2.2.2.2.1 (by simp)
            clear hK HZ
            clear x0 x1 x2 x3 b0 b1 b2 b3 b4 b5 lvb lbb
            obtain ⟨⟨x0, x1, x2, x3⟩, _⟩ := verd_cells hxv
            obtain ⟨⟨b0, b1, b2, b3, b4, b5⟩, _⟩ := six_cells hbv
            have lvb := lt_of hxv
            have lbb := lt_of hbv
            have hfl := hB.fr0.keep H1.out.2.2.1 (by simp)
            obtain ⟨f0, f1, f2, f3, f4⟩ := flow_cells hfl
            have lfl := lt_of hfl
            have hpok := hB.pok
            have HZ := Lib.hid (And.intro hB (And.intro hg (And.intro hup (And.intro hxv (And.intro hbv hpok)))))
            clear hB hg hup hxv hbv hpok hfl
            go_wp2_with fail
            refine (both_decide HZ.out.1 f 99 false).mono ?_
            rintro en w8 ⟨v8, rfl, hs, hone, T8, hg8, hB8, hK⟩
            have hoff := said_off HZ.out.2.2.2.2.2 hs HZ.out.2.2.1
            have hx8 := hK.at HZ.out.2.2.2.1 (by simp)
            obtain ⟨⟨u0, u1, u2, u3⟩, _⟩ := verd_cells hx8
            have lvb8 := lt_of hx8
            have HY := Lib.hid hB8.fr0
            clear hs hone hg8 hB8 hK hx8 x0 x1 x2 x3 b0 b1 b2 b3 b4 b5 lvb lbb f0 f1 f2 f3 f4 lfl
            unfold Verd.val
            by_cases hk8 : v8.kind = 1
            · have hb8 : v8.backend ≠ v.backend := hoff.resolve_left (fun h => h hk8)
              have n1 : ((v8.kind : Int) != 1) = false := by simp [hk8]
              have n2 : ((v8.backend : Int) != v.backend) = true := by simp [hb8]
              clear hoff hk8 hb8
              go_wp2_with fail
              refine (lives_any _).mono ?_
              rintro en w9 ⟨rfl, hfr⟩
              have h9 := Lib.hid hfr
              clear hfr
              go_wp2
              go_ret
              exact ⟨rfl, (H1.out.1.trans HY.out (by simp)).trans (Fr.trans (S := []) (by (repeat (first | (with_reducible exact Fr.refl _ _) | (with_reducible assumption) | (with_reducible refine Fr.drew ?_) | (with_reducible refine Fr.drewN ?_ _) | (with_reducible refine Fr.alloc ?_ _) | (with_reducible refine Fr.mput ?_ _ _ _ (.inl (by simp))) | (with_reducible refine Fr.mdel ?_ _ _ (.inl (by simp))) | (with_reducible refine Fr.set ?_ _ _ (.inr (by first | omega | (dsimp only; omega)))) | (with_reducible refine Fr.set ?_ _ _ (.inl (by simp)))))) h9.out (by simp)) (by simp)⟩
            · have n1 : ((v8.kind : Int) != 1) = true := by simp [hk8]
              clear hoff hk8
              go_wp2_with fail
              refine (lives_any _).mono ?_
              rintro en w9 ⟨rfl, hfr⟩
              have h9 := Lib.hid hfr
              clear hfr
              go_wp2
              go_ret
              exact ⟨rfl, (H1.out.1.trans HY.out (by simp)).trans (Fr.trans (S := []) (by (repeat (first | (with_reducible exact Fr.refl _ _) | (with_reducible assumption) | (with_reducible refine Fr.drew ?_) | (with_reducible refine Fr.drewN ?_ _) | (with_reducible refine Fr.alloc ?_ _) | (with_reducible refine Fr.mput ?_ _ _ _ (.inl (by simp))) | (with_reducible refine Fr.mdel ?_ _ _ (.inl (by simp))) | (with_reducible refine Fr.set ?_ _ _ (.inr (by first | omega | (dsimp only; omega)))) | (with_reducible refine Fr.set ?_ _ _ (.inl (by simp)))))) h9.out (by simp)) (by simp)⟩
      · have hkb : ((v.kind : Int) != 1) = true := by simp [hk]
        go_wp2_with fail
        refine (lives_any _).mono ?_
        rintro en w4 ⟨rfl, hfr⟩
        have h4 := Lib.hid hfr
        clear hfr
        go_wp2
        go_ret
        exact ⟨rfl, (H1.out.1.trans H3.out.1.fr0 (by simp)).trans h4.out (by simp)⟩
end Go.Proofs.YthahlimmmnmniaaGreatDoor

namespace Go.Proofs.YthahlimmmnmniaaGreatDoor
open Go.RowKit Go.Fw

theorem sum_pos {l : List (Int × Mem)} {so : Mem → Bool} (h : 0 < (l.map fun p => wt so p.2).sum) : ∃ p ∈ l, so p.2 = true ∧ 0 < p.2.weight := by
  induction l with
  | nil => simp at h
  | cons a l ih =>
    rw [List.map_cons, List.sum_cons] at h
    by_cases ha : 0 < wt so a.2
    · refine ⟨a, List.mem_cons_self .., ?_⟩
      unfold wt at ha
      split at ha
      · exact ⟨by assumption, ha⟩
      · omega
    · obtain ⟨p, hp, h2⟩ := ih (by omega)
      exact ⟨p, List.mem_cons_of_mem _ hp, h2⟩
theorem quor_elig {P : PoolT} (hk : (P.l.map Prod.fst).Nodup) (h : quorate P = true) : eligible P ≠ [] := by
  unfold quorate quorum at h
  simp only [Bool.and_eq_true, decide_eq_true_eq] at h
  obtain ⟨p, hp, h1, h2⟩ := sum_pos (l := P.l) (so := fun m => m.up && !m.drain) h.1
  intro hc
  have hg := aget_of_mem hk (k := p.1) (v := p.2) hp
  have hkey : p.1 ∈ keysOf P.l := by
    unfold keysOf
    exact (List.mergeSort_perm (P.l.map Prod.fst) (fun x y => decide (x ≤ y))).mem_iff.2 (List.mem_map.2 ⟨p, hp, rfl⟩)
  have hpg : pget P p.1 = p.2 := by unfold pget; rw [hg]; rfl
  have : p.2 ∈ eligible P := by
    unfold eligible
    refine List.mem_filter.2 ⟨List.mem_map.2 ⟨p.1, hkey, hpg⟩, ?_⟩
    unfold elig
    simp only [Bool.and_eq_true, decide_eq_true_eq]
    simp only [Bool.and_eq_true] at h1
    exact ⟨h1, h2⟩
  rw [hc] at this
  cases this
theorem best_one {L : List (Int × Int × Int)} {x y : Int × Int × Int} (hx : x ∈ L) (hy : y ∈ L) (h1 : ∀ z ∈ L, ltOf cmpSite z x = false) (h2 : ∀ z ∈ L, ltOf cmpSite z y = false) : x.1 = y.1 := by
  have a := h1 y hy
  have b := h2 x hx
  simp only [ltOf, cmpSite, orI, Lib.compareInt, decide_eq_false_iff_not] at a b
  rcases Int.lt_trichotomy x.2.2 y.2.2 with h | h | h <;> rcases Int.lt_trichotomy x.1 y.1 with g | g | g
  all_goals first
    | exact g
    | (exfalso; simp_all; done)
    | (exfalso; simp [h, g, Int.lt_irrefl, Int.not_lt.2 (Int.le_of_lt h), Int.not_lt.2 (Int.le_of_lt g)] at a b; done)
    | (exfalso; have h' : ¬ x.2.2 < y.2.2 := by omega; have h'' : ¬ y.2.2 < x.2.2 := by omega; have g' : ¬ x.1 < y.1 ∨ ¬ y.1 < x.1 := by omega; simp [h, h', h'', g] at a b; omega)
end Go.Proofs.YthahlimmmnmniaaGreatDoor
