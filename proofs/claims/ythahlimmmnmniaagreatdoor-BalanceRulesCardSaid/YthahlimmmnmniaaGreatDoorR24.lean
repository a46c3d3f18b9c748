/- BalanceRules: the walk. -/
import Derived.Test.YthahlimmmnmniaaGreatDoorR23
namespace Go.Proofs.YthahlimmmnmniaaGreatDoor
open Go.RowKit Go.Fw

theorem PoolAt.nodup {w : World} {p mb : Nat} {T : PoolT} (h : PoolAt w p mb T) : (T.l.map Prod.fst).Nodup := by
  obtain ⟨es, clock, _, E⟩ := h.map
  exact E.keys
theorem BothAt.apart0 {w0 W : World} {t p s u q r : Nat} {F : List Nat} {T : FTab} {P : PoolT} (h : BothAt w0 W t p s u q r F T P) : ∃ O pb sm rm S, BalAt W t O T p pb P s sm rm S := by
  obtain ⟨O, pb, sm, rm, S, hb, _⟩ := h.bal
  exact ⟨O, pb, sm, rm, S, hb⟩
structure RBox (W : World) (ab bb vb eb : Nat) (f : Flow) (now : Int) (tun : Bool) (t p s u q r : Nat) (v : Verd) (eba : Int) : Prop where
  a : W.heap[ab]? = some (.cells #[.int .i64 f.proto, .int .u32 f.src, .int .u32 f.dst, .int .i64 f.sport, .int .i64 f.dport, .int .i64 now, .bool tun] 33 (0, 0))
  b : W.heap[bb]? = some (.cells (bcell t p s u q r) 43 (0, 0))
  v : W.heap[vb]? = some (.cells #[.int .i64 v.kind, .int .i64 v.backend, .int .i64 v.site, .bool v.known] 46 (0, 0))
  e : ∃ x0 x1 x2 x3 x4 x6, W.heap[eb]? = some (.cells #[x0, x1, x2, x3, x4, .int .i64 eba, x6] 49 (0, 0))
theorem RBox.fr {W W' : World} {ab bb vb eb : Nat} {f : Flow} {now : Int} {tun : Bool} {t p s u q r : Nat} {v : Verd} {eba : Int} (h : RBox W ab bb vb eb f now tun t p s u q r v eba) (hf : Fr [] W W') : RBox W' ab bb vb eb f now tun t p s u q r v eba := by
  obtain ⟨x0, x1, x2, x3, x4, x6, he⟩ := h.e
  exact ⟨hf.keep h.a (by simp), hf.keep h.b (by simp), hf.keep h.v (by simp), x0, x1, x2, x3, x4, x6, hf.keep he (by simp)⟩
theorem RBox.cells {W : World} {ab bb vb eb : Nat} {f : Flow} {now : Int} {tun : Bool} {t p s u q r : Nat} {v : Verd} {eba : Int} (h : RBox W ab bb vb eb f now tun t p s u q r v eba) :
    (W.cell? ⟨ab, 0, none⟩ = some (.int .i64 f.proto) ∧ W.cell? ⟨ab, 1, none⟩ = some (.int .u32 f.src) ∧ W.cell? ⟨ab, 2, none⟩ = some (.int .u32 f.dst) ∧ W.cell? ⟨ab, 3, none⟩ = some (.int .i64 f.sport) ∧ W.cell? ⟨ab, 4, none⟩ = some (.int .i64 f.dport) ∧ W.cell? ⟨ab, 5, none⟩ = some (.int .i64 now) ∧ W.cell? ⟨ab, 6, none⟩ = some (.bool tun)) ∧
    (W.cell? ⟨bb, 0, none⟩ = some (.pointer (some ⟨t, 0, none⟩)) ∧ W.cell? ⟨bb, 1, none⟩ = some (.pointer (some ⟨p, 0, none⟩)) ∧ W.cell? ⟨bb, 2, none⟩ = some (.pointer (some ⟨s, 0, none⟩))) ∧
    (W.cell? ⟨vb, 0, none⟩ = some (.int .i64 v.kind) ∧ W.cell? ⟨vb, 1, none⟩ = some (.int .i64 v.backend) ∧ W.cell? ⟨vb, 2, none⟩ = some (.int .i64 v.site) ∧ W.cell? ⟨vb, 3, none⟩ = some (.bool v.known)) ∧
    W.cell? ⟨eb, 5, none⟩ = some (.int .i64 eba) ∧ ab < W.heap.size ∧ bb < W.heap.size ∧ vb < W.heap.size ∧ eb < W.heap.size := by
  obtain ⟨x0, x1, x2, x3, x4, x6, he⟩ := h.e
  exact ⟨⟨cell_at h.a 0 rfl, cell_at h.a 1 rfl, cell_at h.a 2 rfl, cell_at h.a 3 rfl, cell_at h.a 4 rfl, cell_at h.a 5 rfl, cell_at h.a 6 rfl⟩, ⟨cell_at h.b 0 rfl, cell_at h.b 1 rfl, cell_at h.b 2 rfl⟩, ⟨cell_at h.v 0 rfl, cell_at h.v 1 rfl, cell_at h.v 2 rfl, cell_at h.v 3 rfl⟩, cell_at he 5 rfl, lt_of h.a, lt_of h.b, lt_of h.v, lt_of he⟩

def ERel (w10 : World) (n i0 : Nat) (fd i : Value) (wr : World) : Prop := ∃ k : Nat, k ≤ n ∧ i = .int .i64 k ∧ ∃ fb : Bool, fd = .bool fb ∧ (i0 < k → fb = true) ∧ Fr [] w10 wr
def RTrue (w : World) (en : Ending) (w' : World) : Prop := en = .returned (.bool true) ∧ Fr [] w w'

set_option maxRecDepth 100000 in
set_option maxHeartbeats 8000000 in
theorem rules_any {w : World} {x : WArg} (hx : WorldIn w x) (f : Flow) (now : Int) (tun : Bool) :
    Calls Tryz.prog 3 #[.agg #[.int .i64 x.pct, .slice x.bk.ad x.bk.n x.bk.c, .slice x.up.ad x.up.n x.up.c, .slice x.dr.ad x.dr.n x.dr.c, .slice x.st.ad x.st.n x.st.c, .slice x.cp.ad x.cp.n x.cp.c, .slice x.fl.ad x.fl.n x.fl.c, .slice x.wh.ad x.wh.n x.wh.c],
      .agg #[.int .i64 f.proto, .int .u32 f.src, .int .u32 f.dst, .int .i64 f.sport, .int .i64 f.dport, .int .i64 now, .bool tun]] w (RTrue w) := by
  have HX := Lib.hid hx
  clear hx
  go_enter Tryz.func3, Tryz.ntmps3
  go_wp2_with fail
  refine (light_any x _).mono ?_
  rintro en w1 ⟨rfl, hfr⟩
  have hF1 := Fr.trans (S := []) (a := w) (by (repeat (first | (with_reducible exact Fr.refl _ _) | (with_reducible assumption) | (with_reducible refine Fr.drew ?_) | (with_reducible refine Fr.drewN ?_ _) | (with_reducible refine Fr.alloc ?_ _) | (with_reducible refine Fr.mput ?_ _ _ _ (.inl (by simp))) | (with_reducible refine Fr.mdel ?_ _ _ (.inl (by simp))) | (with_reducible refine Fr.set ?_ _ _ (.inr (by first | omega | (dsimp only; omega)))) | (with_reducible refine Fr.set ?_ _ _ (.inl (by simp)))))) hfr (by simp)
  have hwb := hfr.keep (k := w.heap.size) (o := .cells x.cells 28 (0, 0)) (by rw [heap_alloc_if, if_neg (by simp), heap_alloc_if, if_pos rfl]; rfl) (by simp)
  have hab := hfr.keep (k := w.heap.size + 1) (o := .cells #[.int .i64 f.proto, .int .u32 f.src, .int .u32 f.dst, .int .i64 f.sport, .int .i64 f.dport, .int .i64 now, .bool tun] 33 (0, 0)) (by rw [heap_alloc_if, if_pos (by simp)]) (by simp)
  obtain ⟨lb, hlb⟩ : ∃ b, lightB x = b := ⟨_, rfl⟩
  rw [hlb]
  have H1 := Lib.hid (And.intro hF1 (And.intro hwb hab))
  cases lb with
  | false =>
    clear hwb hab hfr hlb
    have hF := hF1
    clear hF1
    go_wp2_with fail
    refine (lives_any _).mono ?_
    rintro en w9 ⟨rfl, hfr⟩
    have HL := Lib.hid hfr
    clear hfr
    go_wp2
    go_ret
    exact ⟨rfl, Fr.trans (S := []) (by (repeat (first | (with_reducible exact Fr.refl _ _) | (with_reducible assumption) | (with_reducible refine Fr.drew ?_) | (with_reducible refine Fr.drewN ?_ _) | (with_reducible refine Fr.alloc ?_ _) | (with_reducible refine Fr.mput ?_ _ _ _ (.inl (by simp))) | (with_reducible refine Fr.mdel ?_ _ _ (.inl (by simp))) | (with_reducible refine Fr.set ?_ _ _ (.inr (by first | omega | (dsimp only; omega)))) | (with_reducible refine Fr.set ?_ _ _ (.inl (by simp)))))) HL.out (by simp)⟩
  | true =>
    have z0 := cell_at hwb 0 (v := .int .i64 x.pct) rfl
    have z1 := cell_at hwb 1 (v := .slice x.bk.ad x.bk.n x.bk.c) rfl
    have z2 := cell_at hwb 2 (v := .slice x.up.ad x.up.n x.up.c) rfl
    have z3 := cell_at hwb 3 (v := .slice x.dr.ad x.dr.n x.dr.c) rfl
    have z4 := cell_at hwb 4 (v := .slice x.st.ad x.st.n x.st.c) rfl
    have z5 := cell_at hwb 5 (v := .slice x.cp.ad x.cp.n x.cp.c) rfl
    have z6 := cell_at hwb 6 (v := .slice x.fl.ad x.fl.n x.fl.c) rfl
    have z7 := cell_at hwb 7 (v := .slice x.wh.ad x.wh.n x.wh.c) rfl
    clear hF1 hwb hab hfr hlb
    go_wp2_with fail
    refine (made_any (HX.out.fr H1.out.1)).mono ?_
    rintro en w2 ⟨t, p, s, u, q, r, T, rfl, hBo, _⟩
    clear z0 z1 z2 z3 z4 z5 z6 z7
    obtain ⟨O, pb, sm, rm, S, hB⟩ := hBo.apart0
    have hF := H1.out.1.trans hBo.fr0 (by simp)
    have hab := hBo.fr0.keep H1.out.2.2 (by simp)
    obtain ⟨P, hP⟩ : ∃ P, poolTo x x.bk.n = P := ⟨_, rfl⟩
    rw [hP] at hB
    clear hBo hP H1 HX
    unfold bcell
    have f0 := cell_at hab 0 (v := .int .i64 f.proto) rfl
    have f1 := cell_at hab 1 (v := .int .u32 f.src) rfl
    have f2 := cell_at hab 2 (v := .int .u32 f.dst) rfl
    have f3 := cell_at hab 3 (v := .int .i64 f.sport) rfl
    have f4 := cell_at hab 4 (v := .int .i64 f.dport) rfl
    have fn := cell_at hab 5 (v := .int .i64 now) rfl
    have ft := cell_at hab 6 (v := .bool tun) rfl
    have lab := lt_of hab
    have HB := Lib.hid (And.intro hB (And.intro hF hab))
    clear hB hF hab
    go_wp2_with fail
    refine (would_any (HB.out.1.fr ((Fr.refl [] w2).alloc _)) f now tun).mono ?_
    rintro en w3 ⟨v, rfl, hfr, hsaid⟩
    obtain ⟨hB2, hF2, hab2⟩ := HB.out
    have hT : Fr [] w2 w3 := Fr.trans (S := []) (by (repeat (first | (with_reducible exact Fr.refl _ _) | (with_reducible assumption) | (with_reducible refine Fr.drew ?_) | (with_reducible refine Fr.drewN ?_ _) | (with_reducible refine Fr.alloc ?_ _) | (with_reducible refine Fr.mput ?_ _ _ _ (.inl (by simp))) | (with_reducible refine Fr.mdel ?_ _ _ (.inl (by simp))) | (with_reducible refine Fr.set ?_ _ _ (.inr (by first | omega | (dsimp only; omega)))) | (with_reducible refine Fr.set ?_ _ _ (.inl (by simp)))))) hfr (by simp)
    have hB := hB2.fr hT
    have hF := hF2.trans hT (by simp)
    have hab := hT.keep hab2 (by simp)
    have hbb := hfr.keep (k := w2.heap.size) (o := .cells (bcell t p s u q r) 43 (0, 0)) (heap_new w2 _) (by simp)
    clear hB2 hF2 hab2 HB hT hfr f0 f1 f2 f3 f4 fn ft lab
    obtain ⟨bb, hbbn⟩ : ∃ bb, w2.heap.size = bb := ⟨_, rfl⟩
    obtain ⟨ab, habn⟩ : ∃ ab, w.heap.size + 1 = ab := ⟨_, rfl⟩
    rw [hbbn] at hbb ⊢
    rw [habn] at hab ⊢
    clear hbbn habn
    unfold Verd.val
    have f0 := cell_at hab 0 (v := .int .i64 f.proto) rfl
    have f1 := cell_at hab 1 (v := .int .u32 f.src) rfl
    have f2 := cell_at hab 2 (v := .int .u32 f.dst) rfl
    have f3 := cell_at hab 3 (v := .int .i64 f.sport) rfl
    have f4 := cell_at hab 4 (v := .int .i64 f.dport) rfl
    have lab := lt_of hab
    have b0 := cell_at hbb 0 (v := .pointer (some ⟨t, 0, none⟩)) rfl
    have lbb := lt_of hbb
    have HB := Lib.hid (And.intro hB (And.intro hF (And.intro hab (And.intro hbb hsaid))))
    clear hB hF hab hbb hsaid
    go_wp2_with fail
    refine (peek_f (HB.out.1.fr ((Fr.refl [] w3).alloc _)).flows f).mono ?_
    rintro en w4 ⟨hfr, hpk⟩
    obtain ⟨hB3, hF3, hab3, hbb3, hsaid⟩ := HB.out
    have hT : Fr [] w3 w4 := Fr.trans (S := []) (by (repeat (first | (with_reducible exact Fr.refl _ _) | (with_reducible assumption) | (with_reducible refine Fr.drew ?_) | (with_reducible refine Fr.drewN ?_ _) | (with_reducible refine Fr.alloc ?_ _) | (with_reducible refine Fr.mput ?_ _ _ _ (.inl (by simp))) | (with_reducible refine Fr.mdel ?_ _ _ (.inl (by simp))) | (with_reducible refine Fr.set ?_ _ _ (.inr (by first | omega | (dsimp only; omega)))) | (with_reducible refine Fr.set ?_ _ _ (.inl (by simp)))))) hfr (by simp)
    have hB := hB3.fr hT
    have hF := hF3.trans hT (by simp)
    have hab := hT.keep hab3 (by simp)
    have hbb := hT.keep hbb3 (by simp)
    have hvb := hfr.keep (k := w3.heap.size) (o := .cells #[.int .i64 v.kind, .int .i64 v.backend, .int .i64 v.site, .bool v.known] 46 (0, 0)) (heap_new w3 _) (by simp)
    clear hB3 hF3 hab3 hbb3 HB hT hfr f0 f1 f2 f3 f4 lab b0 lbb
    obtain ⟨vb, hvbn⟩ : ∃ vb, w3.heap.size = vb := ⟨_, rfl⟩
    rw [hvbn] at hvb ⊢
    clear hvbn
    have hone := fun a b => hB.flows.one (f := f) (a := a) (b := b)
    have HO := Lib.hid hone
    clear hone
    rcases hsaid with (⟨_, bk, hgo, hup, rfl⟩ | ⟨h, _⟩) | ⟨⟨_, hkn⟩, hrest⟩
    · rcases hpk with ⟨b', la, hgo', rfl⟩ | ⟨hno, _⟩
      · obtain rfl := HO.out b' bk hgo' hgo
        have hX : RBox (w4.alloc (.cells #[.int .i64 f.proto, .int .u32 f.src, .int .u32 f.dst, .int .i64 f.sport, .int .i64 f.dport, .int .i64 b', .int .i64 la] 49)) ab bb vb w4.heap.size f now tun t p s u q r ⟨1, b', 0, true⟩ b' :=
          ⟨by rw [heap_old _ _ (lt_of hab)]; exact hab, by rw [heap_old _ _ (lt_of hbb)]; exact hbb, by rw [heap_old _ _ (lt_of hvb)]; exact hvb, _, _, _, _, _, _, heap_new w4 _⟩
        have hBa := hB.fr ((Fr.refl [] w4).alloc (.cells #[.int .i64 f.proto, .int .u32 f.src, .int .u32 f.dst, .int .i64 f.sport, .int .i64 f.dport, .int .i64 b', .int .i64 la] 49))
        have hFa := hF.alloc (.cells #[.int .i64 f.proto, .int .u32 f.src, .int .u32 f.dst, .int .i64 f.sport, .int .i64 f.dport, .int .i64 b', .int .i64 la] 49)
        obtain ⟨⟨f0, f1, f2, f3, f4, fn, ft⟩, ⟨b0, b1, b2⟩, ⟨v0, v1, v2, v3⟩, e5, lab, lbb, lvb, leb⟩ := hX.cells
        clear hab hbb hvb hB hF
        clear hgo hgo'
        have hB := hBa
        have hF := hFa
        clear hBa hFa
        go_wp2_with fail
        refine (up_mem hB.pool _).mono ?_
        rw [hup]
        rintro en w5 ⟨rfl, hfr⟩
        clear hup
        have hXn := hX.fr (Fr.trans (S := []) (by (repeat (first | (with_reducible exact Fr.refl _ _) | (with_reducible assumption) | (with_reducible refine Fr.drew ?_) | (with_reducible refine Fr.drewN ?_ _) | (with_reducible refine Fr.alloc ?_ _) | (with_reducible refine Fr.mput ?_ _ _ _ (.inl (by simp))) | (with_reducible refine Fr.mdel ?_ _ _ (.inl (by simp))) | (with_reducible refine Fr.set ?_ _ _ (.inr (by first | omega | (dsimp only; omega)))) | (with_reducible refine Fr.set ?_ _ _ (.inl (by simp)))))) hfr (by simp))
        have hBn := hB.fr (Fr.trans (S := []) (by (repeat (first | (with_reducible exact Fr.refl _ _) | (with_reducible assumption) | (with_reducible refine Fr.drew ?_) | (with_reducible refine Fr.drewN ?_ _) | (with_reducible refine Fr.alloc ?_ _) | (with_reducible refine Fr.mput ?_ _ _ _ (.inl (by simp))) | (with_reducible refine Fr.mdel ?_ _ _ (.inl (by simp))) | (with_reducible refine Fr.set ?_ _ _ (.inr (by first | omega | (dsimp only; omega)))) | (with_reducible refine Fr.set ?_ _ _ (.inl (by simp)))))) hfr (by simp))
        have hFn := hF.trans (Fr.trans (S := []) (by (repeat (first | (with_reducible exact Fr.refl _ _) | (with_reducible assumption) | (with_reducible refine Fr.drew ?_) | (with_reducible refine Fr.drewN ?_ _) | (with_reducible refine Fr.alloc ?_ _) | (with_reducible refine Fr.mput ?_ _ _ _ (.inl (by simp))) | (with_reducible refine Fr.mdel ?_ _ _ (.inl (by simp))) | (with_reducible refine Fr.set ?_ _ _ (.inr (by first | omega | (dsimp only; omega)))) | (with_reducible refine Fr.set ?_ _ _ (.inl (by simp)))))) hfr (by simp)) (by simp)
        clear hX hB hF hfr f0 f1 f2 f3 f4 fn ft b0 b1 b2 v0 v1 v2 v3 e5 lab lbb lvb leb
        have hX := hXn
        have hB := hBn
        have hF := hFn
        clear hXn hBn hFn
        obtain ⟨⟨f0, f1, f2, f3, f4, fn, ft⟩, ⟨b0, b1, b2⟩, ⟨v0, v1, v2, v3⟩, e5, lab, lbb, lvb, leb⟩ := hX.cells
        dsimp only at v0 v1 v2 v3
        go_wp2_with fail
        refine (lives_any _).mono ?_
        rintro en w9 ⟨rfl, hfr⟩
        have HL := Lib.hid hfr
        clear hfr
        go_wp2
        go_ret
        exact ⟨rfl, Fr.trans (S := []) (by (repeat (first | (with_reducible exact Fr.refl _ _) | (with_reducible assumption) | (with_reducible refine Fr.drew ?_) | (with_reducible refine Fr.drewN ?_ _) | (with_reducible refine Fr.alloc ?_ _) | (with_reducible refine Fr.mput ?_ _ _ _ (.inl (by simp))) | (with_reducible refine Fr.mdel ?_ _ _ (.inl (by simp))) | (with_reducible refine Fr.set ?_ _ _ (.inr (by first | omega | (dsimp only; omega)))) | (with_reducible refine Fr.set ?_ _ _ (.inl (by simp)))))) HL.out (by simp)⟩
      · exact absurd hgo (hno bk)
    · cases h
    · have hoff : ∀ x, Goes T f x → (pget P x).up = false := by
        rcases hkn with ⟨h, _⟩ | ⟨_, h⟩
        · cases h
        · exact h
      clear hkn
      rcases hpk with ⟨b', la, hgo', rfl⟩ | ⟨hno, rfl⟩
      · have hup := hoff b' hgo'
        clear hgo' hoff
        have hX : RBox (w4.alloc (.cells #[.int .i64 f.proto, .int .u32 f.src, .int .u32 f.dst, .int .i64 f.sport, .int .i64 f.dport, .int .i64 b', .int .i64 la] 49)) ab bb vb w4.heap.size f now tun t p s u q r v b' :=
          ⟨by rw [heap_old _ _ (lt_of hab)]; exact hab, by rw [heap_old _ _ (lt_of hbb)]; exact hbb, by rw [heap_old _ _ (lt_of hvb)]; exact hvb, _, _, _, _, _, _, heap_new w4 _⟩
        have hBa := hB.fr ((Fr.refl [] w4).alloc (.cells #[.int .i64 f.proto, .int .u32 f.src, .int .u32 f.dst, .int .i64 f.sport, .int .i64 f.dport, .int .i64 b', .int .i64 la] 49))
        have hFa := hF.alloc (.cells #[.int .i64 f.proto, .int .u32 f.src, .int .u32 f.dst, .int .i64 f.sport, .int .i64 f.dport, .int .i64 b', .int .i64 la] 49)
        obtain ⟨⟨f0, f1, f2, f3, f4, fn, ft⟩, ⟨b0, b1, b2⟩, ⟨v0, v1, v2, v3⟩, e5, lab, lbb, lvb, leb⟩ := hX.cells
        clear hab hbb hvb hB hF

        have hB := hBa
        have hF := hFa
        clear hBa hFa
        go_wp2_with fail
        refine (up_mem hB.pool _).mono ?_
        rw [hup]
        rintro en w5 ⟨rfl, hfr⟩
        clear hup
        have hXn := hX.fr (Fr.trans (S := []) (by (repeat (first | (with_reducible exact Fr.refl _ _) | (with_reducible assumption) | (with_reducible refine Fr.drew ?_) | (with_reducible refine Fr.drewN ?_ _) | (with_reducible refine Fr.alloc ?_ _) | (with_reducible refine Fr.mput ?_ _ _ _ (.inl (by simp))) | (with_reducible refine Fr.mdel ?_ _ _ (.inl (by simp))) | (with_reducible refine Fr.set ?_ _ _ (.inr (by first | omega | (dsimp only; omega)))) | (with_reducible refine Fr.set ?_ _ _ (.inl (by simp)))))) hfr (by simp))
        have hBn := hB.fr (Fr.trans (S := []) (by (repeat (first | (with_reducible exact Fr.refl _ _) | (with_reducible assumption) | (with_reducible refine Fr.drew ?_) | (with_reducible refine Fr.drewN ?_ _) | (with_reducible refine Fr.alloc ?_ _) | (with_reducible refine Fr.mput ?_ _ _ _ (.inl (by simp))) | (with_reducible refine Fr.mdel ?_ _ _ (.inl (by simp))) | (with_reducible refine Fr.set ?_ _ _ (.inr (by first | omega | (dsimp only; omega)))) | (with_reducible refine Fr.set ?_ _ _ (.inl (by simp)))))) hfr (by simp))
        have hFn := hF.trans (Fr.trans (S := []) (by (repeat (first | (with_reducible exact Fr.refl _ _) | (with_reducible assumption) | (with_reducible refine Fr.drew ?_) | (with_reducible refine Fr.drewN ?_ _) | (with_reducible refine Fr.alloc ?_ _) | (with_reducible refine Fr.mput ?_ _ _ _ (.inl (by simp))) | (with_reducible refine Fr.mdel ?_ _ _ (.inl (by simp))) | (with_reducible refine Fr.set ?_ _ _ (.inr (by first | omega | (dsimp only; omega)))) | (with_reducible refine Fr.set ?_ _ _ (.inl (by simp)))))) hfr (by simp)) (by simp)
        clear hX hB hF hfr f0 f1 f2 f3 f4 fn ft b0 b1 b2 v0 v1 v2 v3 e5 lab lbb lvb leb
        have hX := hXn
        have hB := hBn
        have hF := hFn
        clear hXn hBn hFn
        obtain ⟨⟨f0, f1, f2, f3, f4, fn, ft⟩, ⟨b0, b1, b2⟩, ⟨v0, v1, v2, v3⟩, e5, lab, lbb, lvb, leb⟩ := hX.cells
        go_wp2_with fail
        refine (quorate_any hB.pool hB.pok hB.p0 hB.p1).mono ?_
        rintro en w6 ⟨rfl, hfr⟩
        have hXn := hX.fr (Fr.trans (S := []) (by (repeat (first | (with_reducible exact Fr.refl _ _) | (with_reducible assumption) | (with_reducible refine Fr.drew ?_) | (with_reducible refine Fr.drewN ?_ _) | (with_reducible refine Fr.alloc ?_ _) | (with_reducible refine Fr.mput ?_ _ _ _ (.inl (by simp))) | (with_reducible refine Fr.mdel ?_ _ _ (.inl (by simp))) | (with_reducible refine Fr.set ?_ _ _ (.inr (by first | omega | (dsimp only; omega)))) | (with_reducible refine Fr.set ?_ _ _ (.inl (by simp)))))) hfr (by simp))
        have hBn := hB.fr (Fr.trans (S := []) (by (repeat (first | (with_reducible exact Fr.refl _ _) | (with_reducible assumption) | (with_reducible refine Fr.drew ?_) | (with_reducible refine Fr.drewN ?_ _) | (with_reducible refine Fr.alloc ?_ _) | (with_reducible refine Fr.mput ?_ _ _ _ (.inl (by simp))) | (with_reducible refine Fr.mdel ?_ _ _ (.inl (by simp))) | (with_reducible refine Fr.set ?_ _ _ (.inr (by first | omega | (dsimp only; omega)))) | (with_reducible refine Fr.set ?_ _ _ (.inl (by simp)))))) hfr (by simp))
        have hFn := hF.trans (Fr.trans (S := []) (by (repeat (first | (with_reducible exact Fr.refl _ _) | (with_reducible assumption) | (with_reducible refine Fr.drew ?_) | (with_reducible refine Fr.drewN ?_ _) | (with_reducible refine Fr.alloc ?_ _) | (with_reducible refine Fr.mput ?_ _ _ _ (.inl (by simp))) | (with_reducible refine Fr.mdel ?_ _ _ (.inl (by simp))) | (with_reducible refine Fr.set ?_ _ _ (.inr (by first | omega | (dsimp only; omega)))) | (with_reducible refine Fr.set ?_ _ _ (.inl (by simp)))))) hfr (by simp)) (by simp)
        clear hX hB hF hfr f0 f1 f2 f3 f4 fn ft b0 b1 b2 v0 v1 v2 v3 e5 lab lbb lvb leb
        have hX := hXn
        have hB := hBn
        have hF := hFn
        clear hXn hBn hFn
        obtain ⟨⟨f0, f1, f2, f3, f4, fn, ft⟩, ⟨b0, b1, b2⟩, ⟨v0, v1, v2, v3⟩, e5, lab, lbb, lvb, leb⟩ := hX.cells
        rcases hrest with (⟨_, hq, m, hm, hmax, rfl⟩ | ⟨h, _⟩) | ⟨⟨_, hno2⟩, haw⟩
        · rw [hq]
          dsimp only at v0 v1 v2 v3
          obtain ⟨hpm, hgm, hem⟩ := elig_mem hB.pok hm
          clear hq
          go_wp2_with fail
          refine (rkey_any f _).mono ?_
          rintro en w7 ⟨rfl, hfr⟩
          have hXn := hX.fr (Fr.trans (S := []) (by (repeat (first | (with_reducible exact Fr.refl _ _) | (with_reducible assumption) | (with_reducible refine Fr.drew ?_) | (with_reducible refine Fr.drewN ?_ _) | (with_reducible refine Fr.alloc ?_ _) | (with_reducible refine Fr.mput ?_ _ _ _ (.inl (by simp))) | (with_reducible refine Fr.mdel ?_ _ _ (.inl (by simp))) | (with_reducible refine Fr.set ?_ _ _ (.inr (by first | omega | (dsimp only; omega)))) | (with_reducible refine Fr.set ?_ _ _ (.inl (by simp)))))) hfr (by simp))
          have hBn := hB.fr (Fr.trans (S := []) (by (repeat (first | (with_reducible exact Fr.refl _ _) | (with_reducible assumption) | (with_reducible refine Fr.drew ?_) | (with_reducible refine Fr.drewN ?_ _) | (with_reducible refine Fr.alloc ?_ _) | (with_reducible refine Fr.mput ?_ _ _ _ (.inl (by simp))) | (with_reducible refine Fr.mdel ?_ _ _ (.inl (by simp))) | (with_reducible refine Fr.set ?_ _ _ (.inr (by first | omega | (dsimp only; omega)))) | (with_reducible refine Fr.set ?_ _ _ (.inl (by simp)))))) hfr (by simp))
          have hFn := hF.trans (Fr.trans (S := []) (by (repeat (first | (with_reducible exact Fr.refl _ _) | (with_reducible assumption) | (with_reducible refine Fr.drew ?_) | (with_reducible refine Fr.drewN ?_ _) | (with_reducible refine Fr.alloc ?_ _) | (with_reducible refine Fr.mput ?_ _ _ _ (.inl (by simp))) | (with_reducible refine Fr.mdel ?_ _ _ (.inl (by simp))) | (with_reducible refine Fr.set ?_ _ _ (.inr (by first | omega | (dsimp only; omega)))) | (with_reducible refine Fr.set ?_ _ _ (.inl (by simp)))))) hfr (by simp)) (by simp)
          clear hX hB hF hfr f0 f1 f2 f3 f4 fn ft b0 b1 b2 v0 v1 v2 v3 e5 lab lbb lvb leb
          have hX := hXn
          have hB := hBn
          have hF := hFn
          clear hXn hBn hFn
          obtain ⟨⟨f0, f1, f2, f3, f4, fn, ft⟩, ⟨b0, b1, b2⟩, ⟨v0, v1, v2, v3⟩, e5, lab, lbb, lvb, leb⟩ := hX.cells
          dsimp only at v0 v1 v2 v3
          go_wp2_with fail
          refine (get_backend hB.pool m.id).mono ?_
          rw [hpm, hgm]
          rintro en w8 ⟨rfl, hfr⟩
          have hXn := hX.fr (Fr.trans (S := []) (by (repeat (first | (with_reducible exact Fr.refl _ _) | (with_reducible assumption) | (with_reducible refine Fr.drew ?_) | (with_reducible refine Fr.drewN ?_ _) | (with_reducible refine Fr.alloc ?_ _) | (with_reducible refine Fr.mput ?_ _ _ _ (.inl (by simp))) | (with_reducible refine Fr.mdel ?_ _ _ (.inl (by simp))) | (with_reducible refine Fr.set ?_ _ _ (.inr (by first | omega | (dsimp only; omega)))) | (with_reducible refine Fr.set ?_ _ _ (.inl (by simp)))))) hfr (by simp))
          have hBn := hB.fr (Fr.trans (S := []) (by (repeat (first | (with_reducible exact Fr.refl _ _) | (with_reducible assumption) | (with_reducible refine Fr.drew ?_) | (with_reducible refine Fr.drewN ?_ _) | (with_reducible refine Fr.alloc ?_ _) | (with_reducible refine Fr.mput ?_ _ _ _ (.inl (by simp))) | (with_reducible refine Fr.mdel ?_ _ _ (.inl (by simp))) | (with_reducible refine Fr.set ?_ _ _ (.inr (by first | omega | (dsimp only; omega)))) | (with_reducible refine Fr.set ?_ _ _ (.inl (by simp)))))) hfr (by simp))
          have hFn := hF.trans (Fr.trans (S := []) (by (repeat (first | (with_reducible exact Fr.refl _ _) | (with_reducible assumption) | (with_reducible refine Fr.drew ?_) | (with_reducible refine Fr.drewN ?_ _) | (with_reducible refine Fr.alloc ?_ _) | (with_reducible refine Fr.mput ?_ _ _ _ (.inl (by simp))) | (with_reducible refine Fr.mdel ?_ _ _ (.inl (by simp))) | (with_reducible refine Fr.set ?_ _ _ (.inr (by first | omega | (dsimp only; omega)))) | (with_reducible refine Fr.set ?_ _ _ (.inl (by simp)))))) hfr (by simp)) (by simp)
          clear hX hB hF hfr f0 f1 f2 f3 f4 fn ft b0 b1 b2 v0 v1 v2 v3 e5 lab lbb lvb leb
          have hX := hXn
          have hB := hBn
          have hF := hFn
          clear hXn hBn hFn
          obtain ⟨⟨f0, f1, f2, f3, f4, fn, ft⟩, ⟨b0, b1, b2⟩, ⟨v0, v1, v2, v3⟩, e5, lab, lbb, lvb, leb⟩ := hX.cells
          dsimp only at v0 v1 v2 v3
          clear hpm hgm hem
          go_wp2_with fail
          refine (eligible_fn (hB.fr ((Fr.refl [] w8).alloc _)).pool hB.pok).mono ?_
          rintro en w10 ⟨ve, rfl, hown, hfr⟩
          have hxb := hfr.keep (k := w8.heap.size) (o := .cells #[.int .i64 m.id, .int .u32 m.addr, .int .i64 m.weight] 56 (0, 0)) (heap_new w8 _) (by simp)
          have hXn := hX.fr (Fr.trans (S := []) (by (repeat (first | (with_reducible exact Fr.refl _ _) | (with_reducible assumption) | (with_reducible refine Fr.drew ?_) | (with_reducible refine Fr.drewN ?_ _) | (with_reducible refine Fr.alloc ?_ _) | (with_reducible refine Fr.mput ?_ _ _ _ (.inl (by simp))) | (with_reducible refine Fr.mdel ?_ _ _ (.inl (by simp))) | (with_reducible refine Fr.set ?_ _ _ (.inr (by first | omega | (dsimp only; omega)))) | (with_reducible refine Fr.set ?_ _ _ (.inl (by simp)))))) hfr (by simp))
          have hBn := hB.fr (Fr.trans (S := []) (by (repeat (first | (with_reducible exact Fr.refl _ _) | (with_reducible assumption) | (with_reducible refine Fr.drew ?_) | (with_reducible refine Fr.drewN ?_ _) | (with_reducible refine Fr.alloc ?_ _) | (with_reducible refine Fr.mput ?_ _ _ _ (.inl (by simp))) | (with_reducible refine Fr.mdel ?_ _ _ (.inl (by simp))) | (with_reducible refine Fr.set ?_ _ _ (.inr (by first | omega | (dsimp only; omega)))) | (with_reducible refine Fr.set ?_ _ _ (.inl (by simp)))))) hfr (by simp))
          have hFn := hF.trans (Fr.trans (S := []) (by (repeat (first | (with_reducible exact Fr.refl _ _) | (with_reducible assumption) | (with_reducible refine Fr.drew ?_) | (with_reducible refine Fr.drewN ?_ _) | (with_reducible refine Fr.alloc ?_ _) | (with_reducible refine Fr.mput ?_ _ _ _ (.inl (by simp))) | (with_reducible refine Fr.mdel ?_ _ _ (.inl (by simp))) | (with_reducible refine Fr.set ?_ _ _ (.inr (by first | omega | (dsimp only; omega)))) | (with_reducible refine Fr.set ?_ _ _ (.inl (by simp)))))) hfr (by simp)) (by simp)
          clear hX hB hF hfr f0 f1 f2 f3 f4 fn ft b0 b1 b2 v0 v1 v2 v3 e5 lab lbb lvb leb
          have hX := hXn
          have hB := hBn
          have hF := hFn
          clear hXn hBn hFn
          obtain ⟨⟨f0, f1, f2, f3, f4, fn, ft⟩, ⟨b0, b1, b2⟩, ⟨v0, v1, v2, v3⟩, e5, lab, lbb, lvb, leb⟩ := hX.cells
          dsimp only at v0 v1 v2 v3
          obtain ⟨ad, cp, rfl, hnc, hcells⟩ := own_form hown
          obtain ⟨n, hn⟩ : ∃ n, (eligible P).length = n := ⟨_, rfl⟩
          rw [hn] at hnc hcells ⊢
          obtain ⟨i0, hi0⟩ := List.mem_iff_getElem?.1 hm
          have hin : i0 < n := by rw [← hn]; exact (List.getElem?_eq_some_iff.1 hi0).1
          have hn16 : n ≤ 16 := by rw [← hn]; exact (elig_ok hB.pok).1
          have heok := (elig_ok hB.pok).2
          have HE := Lib.hid (And.intro hn (And.intro hcells (And.intro hi0 (And.intro hmax (And.intro heok (And.intro hxb (And.intro hF hnc)))))))
          have hwt := heok m hm
          clear hn hcells hi0 hmax heok hown hm hF hB hX hxb hnc f0 f1 f2 f3 f4 fn ft b0 b1 b2 v0 v1 v2 v3 e5 lab lbb lvb leb
          go_wp2
          go_loopw [12, 98] (fun fd i wr => ERel w10 n i0 fd i wr) (fun _ i _ => n - (intOf i).toNat)
          case atStart => exact ⟨0, Nat.zero_le _, rfl, false, rfl, fun h => absurd h (by omega), Fr.refl _ _⟩
          case round =>
            obtain ⟨k, hk, rfl, fb, rfl, hfb, hfr⟩ := hrel
            obtain ⟨hn, hcells, hi0, hmax, heok, hxb, hF, hnc⟩ := HE.out
            by_cases hlt : k < n
            · obtain ⟨g, rfl, hgb, hgl, hcell⟩ := hcells (by omega)
              obtain ⟨y, hy⟩ : ∃ y, (eligible P)[k]? = some y := ⟨(eligible P)[k]'(by rw [hn]; exact hlt), List.getElem?_eq_getElem _⟩
              have hym := List.mem_of_getElem? hy
              have hs := hmax y hym
              have hyw := heok y hym
              have cc := fun (q : Nat) (u : Value) (hu : (bcells y)[q]? = some u) => (hfr.cell (a := ⟨g, k * 3 + q, none⟩) hgl (by simp)).trans (hcell _ _ (flat_at (k := 3) (enc := bcells) (fun _ => rfl) hy hu))
              have k0 : wr.cell? ⟨g, k * 3, none⟩ = some (.int .i64 y.id) := cc 0 _ rfl
              have k1 : wr.cell? ⟨g, k * 3 + 1, none⟩ = some (.int .u32 y.addr) := cc 1 _ rfl
              have k2 : wr.cell? ⟨g, k * 3 + 2, none⟩ = some (.int .i64 y.weight) := cc 2 _ rfl
              obtain ⟨⟨x0, x1, x2⟩, _⟩ := backend_cells (hfr.keep hxb (by simp))
              have lxb := lt_of (hfr.keep hxb (by simp))
              have hgl' : g < wr.heap.size := Nat.lt_of_lt_of_le hgl hfr.size
              have j0 : (0 : Int) ≤ k := by omega
              have j1 : (k : Int) < n := by omega
              have hcp : n ≤ cp := by omega
              have hsd : decide (score (key f) m.id m.weight < score (key f) y.id y.weight) = false := decide_eq_false (by omega)
              have HK := Lib.hid (And.intro hfb (And.intro hfr (And.intro hi0 hy)))
              clear cc hcell hs hfb hfr hi0 hn hcells hmax heok hxb hF hnc hym
              cases fb with
              | true =>
                go_wp2
                first
                  | (obtain ⟨w11, hw11⟩ : ∃ w11, w11 = wr.alloc (.cells #[.int .i64 y.id, .int .u32 y.addr, .int .i64 y.weight] 56) := ⟨_, rfl⟩; rw [← hw11]; have hy11 : w11.heap[wr.heap.size]? = some (.cells #[.int .i64 y.id, .int .u32 y.addr, .int .i64 y.weight] 56 (0, 0)) := by rw [hw11]; exact heap_new wr _)
                  | (obtain ⟨w11, hw11⟩ : ∃ w11, w11 = wr.alloc (.cells #[.int .i64 m.id, .int .u32 y.addr, .int .i64 y.weight] 56) := ⟨_, rfl⟩; rw [← hw11]; have hy11 : w11.heap[wr.heap.size]? = some (.cells #[.int .i64 m.id, .int .u32 y.addr, .int .i64 y.weight] 56 (0, 0)) := by rw [hw11]; exact heap_new wr _)
                  | (obtain ⟨w11, hw11⟩ : ∃ w11, w11 = wr.alloc (.cells #[.int .i64 m.id, .int .u32 m.addr, .int .i64 y.weight] 56) := ⟨_, rfl⟩; rw [← hw11]; have hy11 : w11.heap[wr.heap.size]? = some (.cells #[.int .i64 m.id, .int .u32 m.addr, .int .i64 y.weight] 56 (0, 0)) := by rw [hw11]; exact heap_new wr _)
                  | (obtain ⟨w11, hw11⟩ : ∃ w11, w11 = wr.alloc (.cells #[.int .i64 m.id, .int .u32 m.addr, .int .i64 m.weight] 56) := ⟨_, rfl⟩; rw [← hw11]; have hy11 : w11.heap[wr.heap.size]? = some (.cells #[.int .i64 m.id, .int .u32 m.addr, .int .i64 m.weight] 56 (0, 0)) := by rw [hw11]; exact heap_new wr _)
                have hx11 : Fr [] wr w11 := by rw [hw11]; exact (Fr.refl _ _).alloc _
                obtain ⟨⟨d0, d1, d2⟩, _⟩ := backend_cells hy11
                have ld := lt_of hy11
                have q0 := (hx11.cell (a := ⟨w8.heap.size, 0, none⟩) lxb (by simp)).trans x0
                have q2 := (hx11.cell (a := ⟨w8.heap.size, 2, none⟩) lxb (by simp)).trans x2
                have lq : w8.heap.size < w11.heap.size := Nat.lt_of_lt_of_le lxb hx11.size
                have HW := Lib.hid hx11
                clear hw11 hy11 hx11 x0 x1 x2 k0 k1 k2
                refine wp_region_zed (P := Tryz.prog) (fun wz => Fr [] w11 wz) 12 (by kernel_rfl) ?_ (fun hS => ?_)
                · exact (Fr.refl [] _).drew
                refine wpAnyZ_take (i := 0) (oi := { dst := some 108, op := Go.Op.move (Go.Operand.tmp 9), type := 53, pos := "law.go:144", after := #[], guard := none }) (v := _) rfl (by kernel_rfl) (by kernel_rfl) (by kernel_rfl) (by kernel_rfl) (by kernel_rfl) (fun _ _ _ h => h) (Or.inl ⟨by rfl, by (intro w' hSw; (try dsimp only at hSw); go_simp); (try (with_reducible rfl))⟩) (by assumption) ?_
                simp only [Act.put, List.setIfInBounds_toArray, List.set_cons_zero, List.set_cons_succ]
                refine wpAnyZ_take (i := 1) (oi := { dst := some 109, op := Go.Op.fieldAddr 56 (Go.Operand.tmp 14) 0, type := 0, pos := "law.go:144", after := #[], guard := none }) (v := _) rfl (by kernel_rfl) (by kernel_rfl) (by kernel_rfl) (by kernel_rfl) (by kernel_rfl) (fun _ _ _ h => h) (Or.inl ⟨by rfl, by (intro w' hSw; (try dsimp only at hSw); go_simp); (try (with_reducible rfl))⟩) (by assumption) ?_
                simp only [Act.put, List.setIfInBounds_toArray, List.set_cons_zero, List.set_cons_succ]
                refine wpAnyZ_take (i := 2) (oi := { dst := some 110, op := Go.Op.load 3 (Go.Operand.tmp 109), type := 3, pos := "law.go:144", after := #[{ on := 1, ground := Go.Ground.data }], guard := none }) (v := _) rfl (by kernel_rfl) (by kernel_rfl) (by kernel_rfl) (by kernel_rfl) (by kernel_rfl) (fun _ _ _ h => h) (Or.inl ⟨by rfl, by (intro w' hSw; have p0 := (hSw.cell (a := ⟨wr.heap.size, 0, none⟩) ld (by simp)).trans d0; have p2 := (hSw.cell (a := ⟨wr.heap.size, 2, none⟩) ld (by simp)).trans d2; have p3 := (hSw.cell (a := ⟨w8.heap.size, 0, none⟩) lq (by simp)).trans q0; have p4 := (hSw.cell (a := ⟨w8.heap.size, 2, none⟩) lq (by simp)).trans q2; (try dsimp only at hSw); go_simp); (try (with_reducible rfl))⟩) (by assumption) ?_
                simp only [Act.put, List.setIfInBounds_toArray, List.set_cons_zero, List.set_cons_succ]
                refine wpAnyZ_take (i := 3) (oi := { dst := some 111, op := Go.Op.fieldAddr 56 (Go.Operand.tmp 14) 2, type := 0, pos := "law.go:144", after := #[], guard := none }) (v := _) rfl (by kernel_rfl) (by kernel_rfl) (by kernel_rfl) (by kernel_rfl) (by kernel_rfl) (fun _ _ _ h => h) (Or.inl ⟨by rfl, by (intro w' hSw; (try dsimp only at hSw); go_simp); (try (with_reducible rfl))⟩) (by assumption) ?_
                simp only [Act.put, List.setIfInBounds_toArray, List.set_cons_zero, List.set_cons_succ]
                refine wpAnyZ_take (i := 4) (oi := { dst := some 112, op := Go.Op.load 3 (Go.Operand.tmp 111), type := 3, pos := "law.go:144", after := #[{ on := 3, ground := Go.Ground.data }], guard := none }) (v := _) rfl (by kernel_rfl) (by kernel_rfl) (by kernel_rfl) (by kernel_rfl) (by kernel_rfl) (fun _ _ _ h => h) (Or.inl ⟨by rfl, by (intro w' hSw; have p0 := (hSw.cell (a := ⟨wr.heap.size, 0, none⟩) ld (by simp)).trans d0; have p2 := (hSw.cell (a := ⟨wr.heap.size, 2, none⟩) ld (by simp)).trans d2; have p3 := (hSw.cell (a := ⟨w8.heap.size, 0, none⟩) lq (by simp)).trans q0; have p4 := (hSw.cell (a := ⟨w8.heap.size, 2, none⟩) lq (by simp)).trans q2; (try dsimp only at hSw); go_simp); (try (with_reducible rfl))⟩) (by assumption) ?_
                simp only [Act.put, List.setIfInBounds_toArray, List.set_cons_zero, List.set_cons_succ]
                refine wpAnyZ_take (i := 6) (oi := { dst := some 114, op := Go.Op.move (Go.Operand.tmp 9), type := 53, pos := "law.go:144", after := #[], guard := none }) (v := _) rfl (by kernel_rfl) (by kernel_rfl) (by kernel_rfl) (by kernel_rfl) (by kernel_rfl) (fun _ _ _ h => h) (Or.inl ⟨by rfl, by (intro w' hSw; (try dsimp only at hSw); go_simp); (try (with_reducible rfl))⟩) (by assumption) ?_
                simp only [Act.put, List.setIfInBounds_toArray, List.set_cons_zero, List.set_cons_succ]
                refine wpAnyZ_take (i := 7) (oi := { dst := some 115, op := Go.Op.fieldAddr 56 (Go.Operand.tmp 10) 0, type := 0, pos := "law.go:144", after := #[], guard := none }) (v := _) rfl (by kernel_rfl) (by kernel_rfl) (by kernel_rfl) (by kernel_rfl) (by kernel_rfl) (fun _ _ _ h => h) (Or.inl ⟨by rfl, by (intro w' hSw; (try dsimp only at hSw); go_simp); (try (with_reducible rfl))⟩) (by assumption) ?_
                simp only [Act.put, List.setIfInBounds_toArray, List.set_cons_zero, List.set_cons_succ]
                refine wpAnyZ_take (i := 8) (oi := { dst := some 116, op := Go.Op.load 3 (Go.Operand.tmp 115), type := 3, pos := "law.go:144", after := #[{ on := 7, ground := Go.Ground.data }], guard := none }) (v := _) rfl (by kernel_rfl) (by kernel_rfl) (by kernel_rfl) (by kernel_rfl) (by kernel_rfl) (fun _ _ _ h => h) (Or.inl ⟨by rfl, by (intro w' hSw; have p0 := (hSw.cell (a := ⟨wr.heap.size, 0, none⟩) ld (by simp)).trans d0; have p2 := (hSw.cell (a := ⟨wr.heap.size, 2, none⟩) ld (by simp)).trans d2; have p3 := (hSw.cell (a := ⟨w8.heap.size, 0, none⟩) lq (by simp)).trans q0; have p4 := (hSw.cell (a := ⟨w8.heap.size, 2, none⟩) lq (by simp)).trans q2; (try dsimp only at hSw); go_simp); (try (with_reducible rfl))⟩) (by assumption) ?_
                simp only [Act.put, List.setIfInBounds_toArray, List.set_cons_zero, List.set_cons_succ]
                refine wpAnyZ_take (i := 9) (oi := { dst := some 117, op := Go.Op.fieldAddr 56 (Go.Operand.tmp 10) 2, type := 0, pos := "law.go:144", after := #[], guard := none }) (v := _) rfl (by kernel_rfl) (by kernel_rfl) (by kernel_rfl) (by kernel_rfl) (by kernel_rfl) (fun _ _ _ h => h) (Or.inl ⟨by rfl, by (intro w' hSw; (try dsimp only at hSw); go_simp); (try (with_reducible rfl))⟩) (by assumption) ?_
                simp only [Act.put, List.setIfInBounds_toArray, List.set_cons_zero, List.set_cons_succ]
                refine wpAnyZ_take (i := 10) (oi := { dst := some 118, op := Go.Op.load 3 (Go.Operand.tmp 117), type := 3, pos := "law.go:144", after := #[{ on := 9, ground := Go.Ground.data }], guard := none }) (v := _) rfl (by kernel_rfl) (by kernel_rfl) (by kernel_rfl) (by kernel_rfl) (by kernel_rfl) (fun _ _ _ h => h) (Or.inl ⟨by rfl, by (intro w' hSw; have p0 := (hSw.cell (a := ⟨wr.heap.size, 0, none⟩) ld (by simp)).trans d0; have p2 := (hSw.cell (a := ⟨wr.heap.size, 2, none⟩) ld (by simp)).trans d2; have p3 := (hSw.cell (a := ⟨w8.heap.size, 0, none⟩) lq (by simp)).trans q0; have p4 := (hSw.cell (a := ⟨w8.heap.size, 2, none⟩) lq (by simp)).trans q2; (try dsimp only at hSw); go_simp); (try (with_reducible rfl))⟩) (by assumption) ?_
                simp only [Act.put, List.setIfInBounds_toArray, List.set_cons_zero, List.set_cons_succ]
                refine wpAnyZ_ready (rs := [5]) (by kernel_rfl) (by simp) ?_
                refine ZedOne.cons (o := { dst := some 113, op := Go.Op.call { callee := Go.Callee.value (Go.Operand.func 15), args := #[Go.Operand.tmp 108, Go.Operand.tmp 110, Go.Operand.tmp 112], argTypes := #[53, 3, 3] }, type := 53, pos := "law.go:144", after := #[{ on := 0, ground := Go.Ground.data }, { on := 2, ground := Go.Ground.data }, { on := 4, ground := Go.Ground.data }], guard := none }) rfl (fun K hK => ?_) ?_
                go_simp
                refine (rscore_int (key f) _ _ (by omega) (by omega) _).mono ?_
                rintro en w12 ⟨rfl, rfl⟩
                dsimp only
                refine hK.out _ _ ?_ (fun hSn => ?_)
                · exact hS
                clear hK K hS
                have hS := hSn
                clear hSn
                (try simp only [Act.put, List.setIfInBounds_toArray, List.set_cons_zero, List.set_cons_succ])
                refine wpAnyZ_ready (rs := [11]) (by kernel_rfl) (by simp) ?_
                refine ZedOne.cons (o := { dst := some 119, op := Go.Op.call { callee := Go.Callee.value (Go.Operand.func 15), args := #[Go.Operand.tmp 114, Go.Operand.tmp 116, Go.Operand.tmp 118], argTypes := #[53, 3, 3] }, type := 53, pos := "law.go:144", after := #[{ on := 6, ground := Go.Ground.data }, { on := 8, ground := Go.Ground.data }, { on := 10, ground := Go.Ground.data }, { on := 5, ground := Go.Ground.chain }], guard := none }) rfl (fun K hK => ?_) ?_
                go_simp
                refine (rscore_int (key f) _ _ (by omega) (by omega) _).mono ?_
                rintro en w12 ⟨rfl, rfl⟩
                dsimp only
                refine hK.out _ _ ?_ (fun hSn => ?_)
                · exact hS
                clear hK K hS
                have hS := hSn
                clear hSn
                (try simp only [Act.put, List.setIfInBounds_toArray, List.set_cons_zero, List.set_cons_succ])
                refine wpAnyZ_ready (rs := [12]) (by kernel_rfl) (by simp) ?_
                refine ZedOne.last (o := { dst := some 120, op := Go.Op.binOp Go.BinOp.gtr 53 (Go.Operand.tmp 113) (Go.Operand.tmp 119) 53, type := 4, pos := "law.go:144", after := #[{ on := 5, ground := Go.Ground.data }, { on := 11, ground := Go.Ground.data }], guard := none }) rfl (fun K hK => ?_)
                go_simp
                refine hK.out _ _ ?_
                clear hK K hS
                (try simp only [Act.put, List.setIfInBounds_toArray, List.set_cons_zero, List.set_cons_succ])
                refine wpAnyZ_done (by kernel_rfl) ?_ _
                rotate_left 1
                exact ZedOne.nil
                exact ZedOne.nil
                all_goals go_wp2
                all_goals try (exfalso; have hse := of_decide_eq_false hsd; rw [show y.id = m.id by assumption] at hse; exact hse (by assumption))
                all_goals obtain ⟨hfb, hfr, _⟩ := HK.out
                all_goals have hW := HW.out
                all_goals refine ⟨⟨k + 1, ?_, ?_, _, rfl, ?_, ?_⟩, ?_⟩
                all_goals first
                  | omega
                  | (go_num; done)
                  | (simp [intOf]; omega)
                  | (intro _; rfl)
                  | exact hfr.trans hW (by simp)
                  | exact (hfr.trans hW (by simp)).drew
                  | exact (hfr.trans hW (by simp)).drewN _
                  | exact Fr.drew (Fr.drew (hfr.trans hW (by simp)))
              | false =>
                by_cases hki : k = i0
                · obtain rfl : y = m := by
                    have h1 := HK.out.2.2.1
                    have h2 := HK.out.2.2.2
                    rw [hki] at h2
                    exact Option.some.inj (h2.symm.trans h1)
                  clear hki
                  go_wp2
                  first
                    | (obtain ⟨w11, hw11⟩ : ∃ w11, w11 = wr.alloc (.cells #[.int .i64 y.id, .int .u32 y.addr, .int .i64 y.weight] 56) := ⟨_, rfl⟩; rw [← hw11]; have hy11 : w11.heap[wr.heap.size]? = some (.cells #[.int .i64 y.id, .int .u32 y.addr, .int .i64 y.weight] 56 (0, 0)) := by rw [hw11]; exact heap_new wr _)
                    | (obtain ⟨w11, hw11⟩ : ∃ w11, w11 = wr.alloc (.cells #[.int .i64 m.id, .int .u32 y.addr, .int .i64 y.weight] 56) := ⟨_, rfl⟩; rw [← hw11]; have hy11 : w11.heap[wr.heap.size]? = some (.cells #[.int .i64 m.id, .int .u32 y.addr, .int .i64 y.weight] 56 (0, 0)) := by rw [hw11]; exact heap_new wr _)
                    | (obtain ⟨w11, hw11⟩ : ∃ w11, w11 = wr.alloc (.cells #[.int .i64 m.id, .int .u32 m.addr, .int .i64 y.weight] 56) := ⟨_, rfl⟩; rw [← hw11]; have hy11 : w11.heap[wr.heap.size]? = some (.cells #[.int .i64 m.id, .int .u32 m.addr, .int .i64 y.weight] 56 (0, 0)) := by rw [hw11]; exact heap_new wr _)
                    | (obtain ⟨w11, hw11⟩ : ∃ w11, w11 = wr.alloc (.cells #[.int .i64 m.id, .int .u32 m.addr, .int .i64 m.weight] 56) := ⟨_, rfl⟩; rw [← hw11]; have hy11 : w11.heap[wr.heap.size]? = some (.cells #[.int .i64 m.id, .int .u32 m.addr, .int .i64 m.weight] 56 (0, 0)) := by rw [hw11]; exact heap_new wr _)
                  have hx11 : Fr [] wr w11 := by rw [hw11]; exact (Fr.refl _ _).alloc _
                  obtain ⟨⟨d0, d1, d2⟩, _⟩ := backend_cells hy11
                  have ld := lt_of hy11
                  have q0 := (hx11.cell (a := ⟨w8.heap.size, 0, none⟩) lxb (by simp)).trans x0
                  have q2 := (hx11.cell (a := ⟨w8.heap.size, 2, none⟩) lxb (by simp)).trans x2
                  have lq : w8.heap.size < w11.heap.size := Nat.lt_of_lt_of_le lxb hx11.size
                  have HW := Lib.hid hx11
                  clear hw11 hy11 hx11 x0 x1 x2 k0 k1 k2
                  refine wp_region_zed (P := Tryz.prog) (fun wz => Fr [] w11 wz) 12 (by kernel_rfl) ?_ (fun hS => ?_)
                  · exact (Fr.refl [] _).drew
                  refine wpAnyZ_take (i := 0) (oi := { dst := some 108, op := Go.Op.move (Go.Operand.tmp 9), type := 53, pos := "law.go:144", after := #[], guard := none }) (v := _) rfl (by kernel_rfl) (by kernel_rfl) (by kernel_rfl) (by kernel_rfl) (by kernel_rfl) (fun _ _ _ h => h) (Or.inl ⟨by rfl, by (intro w' hSw; (try dsimp only at hSw); go_simp); (try (with_reducible rfl))⟩) (by assumption) ?_
                  simp only [Act.put, List.setIfInBounds_toArray, List.set_cons_zero, List.set_cons_succ]
                  refine wpAnyZ_take (i := 1) (oi := { dst := some 109, op := Go.Op.fieldAddr 56 (Go.Operand.tmp 14) 0, type := 0, pos := "law.go:144", after := #[], guard := none }) (v := _) rfl (by kernel_rfl) (by kernel_rfl) (by kernel_rfl) (by kernel_rfl) (by kernel_rfl) (fun _ _ _ h => h) (Or.inl ⟨by rfl, by (intro w' hSw; (try dsimp only at hSw); go_simp); (try (with_reducible rfl))⟩) (by assumption) ?_
                  simp only [Act.put, List.setIfInBounds_toArray, List.set_cons_zero, List.set_cons_succ]
                  refine wpAnyZ_take (i := 2) (oi := { dst := some 110, op := Go.Op.load 3 (Go.Operand.tmp 109), type := 3, pos := "law.go:144", after := #[{ on := 1, ground := Go.Ground.data }], guard := none }) (v := _) rfl (by kernel_rfl) (by kernel_rfl) (by kernel_rfl) (by kernel_rfl) (by kernel_rfl) (fun _ _ _ h => h) (Or.inl ⟨by rfl, by (intro w' hSw; have p0 := (hSw.cell (a := ⟨wr.heap.size, 0, none⟩) ld (by simp)).trans d0; have p2 := (hSw.cell (a := ⟨wr.heap.size, 2, none⟩) ld (by simp)).trans d2; have p3 := (hSw.cell (a := ⟨w8.heap.size, 0, none⟩) lq (by simp)).trans q0; have p4 := (hSw.cell (a := ⟨w8.heap.size, 2, none⟩) lq (by simp)).trans q2; (try dsimp only at hSw); go_simp); (try (with_reducible rfl))⟩) (by assumption) ?_
                  simp only [Act.put, List.setIfInBounds_toArray, List.set_cons_zero, List.set_cons_succ]
                  refine wpAnyZ_take (i := 3) (oi := { dst := some 111, op := Go.Op.fieldAddr 56 (Go.Operand.tmp 14) 2, type := 0, pos := "law.go:144", after := #[], guard := none }) (v := _) rfl (by kernel_rfl) (by kernel_rfl) (by kernel_rfl) (by kernel_rfl) (by kernel_rfl) (fun _ _ _ h => h) (Or.inl ⟨by rfl, by (intro w' hSw; (try dsimp only at hSw); go_simp); (try (with_reducible rfl))⟩) (by assumption) ?_
                  simp only [Act.put, List.setIfInBounds_toArray, List.set_cons_zero, List.set_cons_succ]
                  refine wpAnyZ_take (i := 4) (oi := { dst := some 112, op := Go.Op.load 3 (Go.Operand.tmp 111), type := 3, pos := "law.go:144", after := #[{ on := 3, ground := Go.Ground.data }], guard := none }) (v := _) rfl (by kernel_rfl) (by kernel_rfl) (by kernel_rfl) (by kernel_rfl) (by kernel_rfl) (fun _ _ _ h => h) (Or.inl ⟨by rfl, by (intro w' hSw; have p0 := (hSw.cell (a := ⟨wr.heap.size, 0, none⟩) ld (by simp)).trans d0; have p2 := (hSw.cell (a := ⟨wr.heap.size, 2, none⟩) ld (by simp)).trans d2; have p3 := (hSw.cell (a := ⟨w8.heap.size, 0, none⟩) lq (by simp)).trans q0; have p4 := (hSw.cell (a := ⟨w8.heap.size, 2, none⟩) lq (by simp)).trans q2; (try dsimp only at hSw); go_simp); (try (with_reducible rfl))⟩) (by assumption) ?_
                  simp only [Act.put, List.setIfInBounds_toArray, List.set_cons_zero, List.set_cons_succ]
                  refine wpAnyZ_take (i := 6) (oi := { dst := some 114, op := Go.Op.move (Go.Operand.tmp 9), type := 53, pos := "law.go:144", after := #[], guard := none }) (v := _) rfl (by kernel_rfl) (by kernel_rfl) (by kernel_rfl) (by kernel_rfl) (by kernel_rfl) (fun _ _ _ h => h) (Or.inl ⟨by rfl, by (intro w' hSw; (try dsimp only at hSw); go_simp); (try (with_reducible rfl))⟩) (by assumption) ?_
                  simp only [Act.put, List.setIfInBounds_toArray, List.set_cons_zero, List.set_cons_succ]
                  refine wpAnyZ_take (i := 7) (oi := { dst := some 115, op := Go.Op.fieldAddr 56 (Go.Operand.tmp 10) 0, type := 0, pos := "law.go:144", after := #[], guard := none }) (v := _) rfl (by kernel_rfl) (by kernel_rfl) (by kernel_rfl) (by kernel_rfl) (by kernel_rfl) (fun _ _ _ h => h) (Or.inl ⟨by rfl, by (intro w' hSw; (try dsimp only at hSw); go_simp); (try (with_reducible rfl))⟩) (by assumption) ?_
                  simp only [Act.put, List.setIfInBounds_toArray, List.set_cons_zero, List.set_cons_succ]
                  refine wpAnyZ_take (i := 8) (oi := { dst := some 116, op := Go.Op.load 3 (Go.Operand.tmp 115), type := 3, pos := "law.go:144", after := #[{ on := 7, ground := Go.Ground.data }], guard := none }) (v := _) rfl (by kernel_rfl) (by kernel_rfl) (by kernel_rfl) (by kernel_rfl) (by kernel_rfl) (fun _ _ _ h => h) (Or.inl ⟨by rfl, by (intro w' hSw; have p0 := (hSw.cell (a := ⟨wr.heap.size, 0, none⟩) ld (by simp)).trans d0; have p2 := (hSw.cell (a := ⟨wr.heap.size, 2, none⟩) ld (by simp)).trans d2; have p3 := (hSw.cell (a := ⟨w8.heap.size, 0, none⟩) lq (by simp)).trans q0; have p4 := (hSw.cell (a := ⟨w8.heap.size, 2, none⟩) lq (by simp)).trans q2; (try dsimp only at hSw); go_simp); (try (with_reducible rfl))⟩) (by assumption) ?_
                  simp only [Act.put, List.setIfInBounds_toArray, List.set_cons_zero, List.set_cons_succ]
                  refine wpAnyZ_take (i := 9) (oi := { dst := some 117, op := Go.Op.fieldAddr 56 (Go.Operand.tmp 10) 2, type := 0, pos := "law.go:144", after := #[], guard := none }) (v := _) rfl (by kernel_rfl) (by kernel_rfl) (by kernel_rfl) (by kernel_rfl) (by kernel_rfl) (fun _ _ _ h => h) (Or.inl ⟨by rfl, by (intro w' hSw; (try dsimp only at hSw); go_simp); (try (with_reducible rfl))⟩) (by assumption) ?_
                  simp only [Act.put, List.setIfInBounds_toArray, List.set_cons_zero, List.set_cons_succ]
                  refine wpAnyZ_take (i := 10) (oi := { dst := some 118, op := Go.Op.load 3 (Go.Operand.tmp 117), type := 3, pos := "law.go:144", after := #[{ on := 9, ground := Go.Ground.data }], guard := none }) (v := _) rfl (by kernel_rfl) (by kernel_rfl) (by kernel_rfl) (by kernel_rfl) (by kernel_rfl) (fun _ _ _ h => h) (Or.inl ⟨by rfl, by (intro w' hSw; have p0 := (hSw.cell (a := ⟨wr.heap.size, 0, none⟩) ld (by simp)).trans d0; have p2 := (hSw.cell (a := ⟨wr.heap.size, 2, none⟩) ld (by simp)).trans d2; have p3 := (hSw.cell (a := ⟨w8.heap.size, 0, none⟩) lq (by simp)).trans q0; have p4 := (hSw.cell (a := ⟨w8.heap.size, 2, none⟩) lq (by simp)).trans q2; (try dsimp only at hSw); go_simp); (try (with_reducible rfl))⟩) (by assumption) ?_
                  simp only [Act.put, List.setIfInBounds_toArray, List.set_cons_zero, List.set_cons_succ]
                  refine wpAnyZ_ready (rs := [5]) (by kernel_rfl) (by simp) ?_
                  refine ZedOne.cons (o := { dst := some 113, op := Go.Op.call { callee := Go.Callee.value (Go.Operand.func 15), args := #[Go.Operand.tmp 108, Go.Operand.tmp 110, Go.Operand.tmp 112], argTypes := #[53, 3, 3] }, type := 53, pos := "law.go:144", after := #[{ on := 0, ground := Go.Ground.data }, { on := 2, ground := Go.Ground.data }, { on := 4, ground := Go.Ground.data }], guard := none }) rfl (fun K hK => ?_) ?_
                  go_simp
                  refine (rscore_int (key f) _ _ (by omega) (by omega) _).mono ?_
                  rintro en w12 ⟨rfl, rfl⟩
                  dsimp only
                  refine hK.out _ _ ?_ (fun hSn => ?_)
                  · exact hS
                  clear hK K hS
                  have hS := hSn
                  clear hSn
                  (try simp only [Act.put, List.setIfInBounds_toArray, List.set_cons_zero, List.set_cons_succ])
                  refine wpAnyZ_ready (rs := [11]) (by kernel_rfl) (by simp) ?_
                  refine ZedOne.cons (o := { dst := some 119, op := Go.Op.call { callee := Go.Callee.value (Go.Operand.func 15), args := #[Go.Operand.tmp 114, Go.Operand.tmp 116, Go.Operand.tmp 118], argTypes := #[53, 3, 3] }, type := 53, pos := "law.go:144", after := #[{ on := 6, ground := Go.Ground.data }, { on := 8, ground := Go.Ground.data }, { on := 10, ground := Go.Ground.data }, { on := 5, ground := Go.Ground.chain }], guard := none }) rfl (fun K hK => ?_) ?_
                  go_simp
                  refine (rscore_int (key f) _ _ (by omega) (by omega) _).mono ?_
                  rintro en w12 ⟨rfl, rfl⟩
                  dsimp only
                  refine hK.out _ _ ?_ (fun hSn => ?_)
                  · exact hS
                  clear hK K hS
                  have hS := hSn
                  clear hSn
                  (try simp only [Act.put, List.setIfInBounds_toArray, List.set_cons_zero, List.set_cons_succ])
                  refine wpAnyZ_ready (rs := [12]) (by kernel_rfl) (by simp) ?_
                  refine ZedOne.last (o := { dst := some 120, op := Go.Op.binOp Go.BinOp.gtr 53 (Go.Operand.tmp 113) (Go.Operand.tmp 119) 53, type := 4, pos := "law.go:144", after := #[{ on := 5, ground := Go.Ground.data }, { on := 11, ground := Go.Ground.data }], guard := none }) rfl (fun K hK => ?_)
                  go_simp
                  refine hK.out _ _ ?_
                  clear hK K hS
                  (try simp only [Act.put, List.setIfInBounds_toArray, List.set_cons_zero, List.set_cons_succ])
                  refine wpAnyZ_done (by kernel_rfl) ?_ _
                  rotate_left 1
                  exact ZedOne.nil
                  exact ZedOne.nil
                  all_goals go_wp2
                  all_goals try (exfalso; have hse := of_decide_eq_false hsd; rw [show y.id = m.id by assumption] at hse; exact hse (by assumption))
                  all_goals obtain ⟨hfb, hfr, _⟩ := HK.out
                  all_goals have hW := HW.out
                  all_goals refine ⟨⟨k + 1, ?_, ?_, _, rfl, ?_, ?_⟩, ?_⟩
                  all_goals first
                    | omega
                    | (go_num; done)
                    | (simp [intOf]; omega)
                    | (intro _; rfl)
                    | exact hfr.trans hW (by simp)
                    | exact (hfr.trans hW (by simp)).drew
                    | exact (hfr.trans hW (by simp)).drewN _
                    | exact Fr.drew (Fr.drew (hfr.trans hW (by simp)))
                · have HI := Lib.hid hki
                  clear hki
                  go_wp2
                  all_goals
                    first
                      | (obtain ⟨w11, hw11⟩ : ∃ w11, w11 = wr.alloc (.cells #[.int .i64 y.id, .int .u32 y.addr, .int .i64 y.weight] 56) := ⟨_, rfl⟩; rw [← hw11]; have hy11 : w11.heap[wr.heap.size]? = some (.cells #[.int .i64 y.id, .int .u32 y.addr, .int .i64 y.weight] 56 (0, 0)) := by rw [hw11]; exact heap_new wr _)
                      | (obtain ⟨w11, hw11⟩ : ∃ w11, w11 = wr.alloc (.cells #[.int .i64 m.id, .int .u32 y.addr, .int .i64 y.weight] 56) := ⟨_, rfl⟩; rw [← hw11]; have hy11 : w11.heap[wr.heap.size]? = some (.cells #[.int .i64 m.id, .int .u32 y.addr, .int .i64 y.weight] 56 (0, 0)) := by rw [hw11]; exact heap_new wr _)
                      | (obtain ⟨w11, hw11⟩ : ∃ w11, w11 = wr.alloc (.cells #[.int .i64 m.id, .int .u32 m.addr, .int .i64 y.weight] 56) := ⟨_, rfl⟩; rw [← hw11]; have hy11 : w11.heap[wr.heap.size]? = some (.cells #[.int .i64 m.id, .int .u32 m.addr, .int .i64 y.weight] 56 (0, 0)) := by rw [hw11]; exact heap_new wr _)
                      | (obtain ⟨w11, hw11⟩ : ∃ w11, w11 = wr.alloc (.cells #[.int .i64 m.id, .int .u32 m.addr, .int .i64 m.weight] 56) := ⟨_, rfl⟩; rw [← hw11]; have hy11 : w11.heap[wr.heap.size]? = some (.cells #[.int .i64 m.id, .int .u32 m.addr, .int .i64 m.weight] 56 (0, 0)) := by rw [hw11]; exact heap_new wr _)
                    have hx11 : Fr [] wr w11 := by rw [hw11]; exact (Fr.refl _ _).alloc _
                    obtain ⟨⟨d0, d1, d2⟩, _⟩ := backend_cells hy11
                    have ld := lt_of hy11
                    have q0 := (hx11.cell (a := ⟨w8.heap.size, 0, none⟩) lxb (by simp)).trans x0
                    have q2 := (hx11.cell (a := ⟨w8.heap.size, 2, none⟩) lxb (by simp)).trans x2
                    have lq : w8.heap.size < w11.heap.size := Nat.lt_of_lt_of_le lxb hx11.size
                    have HW := Lib.hid hx11
                    clear hw11 hy11 hx11 x0 x1 x2 k0 k1 k2
                    refine wp_region_zed (P := Tryz.prog) (fun wz => Fr [] w11 wz) 12 (by kernel_rfl) ?_ (fun hS => ?_)
                    · exact (Fr.refl [] _).drew
                    refine wpAnyZ_take (i := 0) (oi := { dst := some 108, op := Go.Op.move (Go.Operand.tmp 9), type := 53, pos := "law.go:144", after := #[], guard := none }) (v := _) rfl (by kernel_rfl) (by kernel_rfl) (by kernel_rfl) (by kernel_rfl) (by kernel_rfl) (fun _ _ _ h => h) (Or.inl ⟨by rfl, by (intro w' hSw; (try dsimp only at hSw); go_simp); (try (with_reducible rfl))⟩) (by assumption) ?_
                    simp only [Act.put, List.setIfInBounds_toArray, List.set_cons_zero, List.set_cons_succ]
                    refine wpAnyZ_take (i := 1) (oi := { dst := some 109, op := Go.Op.fieldAddr 56 (Go.Operand.tmp 14) 0, type := 0, pos := "law.go:144", after := #[], guard := none }) (v := _) rfl (by kernel_rfl) (by kernel_rfl) (by kernel_rfl) (by kernel_rfl) (by kernel_rfl) (fun _ _ _ h => h) (Or.inl ⟨by rfl, by (intro w' hSw; (try dsimp only at hSw); go_simp); (try (with_reducible rfl))⟩) (by assumption) ?_
                    simp only [Act.put, List.setIfInBounds_toArray, List.set_cons_zero, List.set_cons_succ]
                    refine wpAnyZ_take (i := 2) (oi := { dst := some 110, op := Go.Op.load 3 (Go.Operand.tmp 109), type := 3, pos := "law.go:144", after := #[{ on := 1, ground := Go.Ground.data }], guard := none }) (v := _) rfl (by kernel_rfl) (by kernel_rfl) (by kernel_rfl) (by kernel_rfl) (by kernel_rfl) (fun _ _ _ h => h) (Or.inl ⟨by rfl, by (intro w' hSw; have p0 := (hSw.cell (a := ⟨wr.heap.size, 0, none⟩) ld (by simp)).trans d0; have p2 := (hSw.cell (a := ⟨wr.heap.size, 2, none⟩) ld (by simp)).trans d2; have p3 := (hSw.cell (a := ⟨w8.heap.size, 0, none⟩) lq (by simp)).trans q0; have p4 := (hSw.cell (a := ⟨w8.heap.size, 2, none⟩) lq (by simp)).trans q2; (try dsimp only at hSw); go_simp); (try (with_reducible rfl))⟩) (by assumption) ?_
                    simp only [Act.put, List.setIfInBounds_toArray, List.set_cons_zero, List.set_cons_succ]
                    refine wpAnyZ_take (i := 3) (oi := { dst := some 111, op := Go.Op.fieldAddr 56 (Go.Operand.tmp 14) 2, type := 0, pos := "law.go:144", after := #[], guard := none }) (v := _) rfl (by kernel_rfl) (by kernel_rfl) (by kernel_rfl) (by kernel_rfl) (by kernel_rfl) (fun _ _ _ h => h) (Or.inl ⟨by rfl, by (intro w' hSw; (try dsimp only at hSw); go_simp); (try (with_reducible rfl))⟩) (by assumption) ?_
                    simp only [Act.put, List.setIfInBounds_toArray, List.set_cons_zero, List.set_cons_succ]
                    refine wpAnyZ_take (i := 4) (oi := { dst := some 112, op := Go.Op.load 3 (Go.Operand.tmp 111), type := 3, pos := "law.go:144", after := #[{ on := 3, ground := Go.Ground.data }], guard := none }) (v := _) rfl (by kernel_rfl) (by kernel_rfl) (by kernel_rfl) (by kernel_rfl) (by kernel_rfl) (fun _ _ _ h => h) (Or.inl ⟨by rfl, by (intro w' hSw; have p0 := (hSw.cell (a := ⟨wr.heap.size, 0, none⟩) ld (by simp)).trans d0; have p2 := (hSw.cell (a := ⟨wr.heap.size, 2, none⟩) ld (by simp)).trans d2; have p3 := (hSw.cell (a := ⟨w8.heap.size, 0, none⟩) lq (by simp)).trans q0; have p4 := (hSw.cell (a := ⟨w8.heap.size, 2, none⟩) lq (by simp)).trans q2; (try dsimp only at hSw); go_simp); (try (with_reducible rfl))⟩) (by assumption) ?_
                    simp only [Act.put, List.setIfInBounds_toArray, List.set_cons_zero, List.set_cons_succ]
                    refine wpAnyZ_take (i := 6) (oi := { dst := some 114, op := Go.Op.move (Go.Operand.tmp 9), type := 53, pos := "law.go:144", after := #[], guard := none }) (v := _) rfl (by kernel_rfl) (by kernel_rfl) (by kernel_rfl) (by kernel_rfl) (by kernel_rfl) (fun _ _ _ h => h) (Or.inl ⟨by rfl, by (intro w' hSw; (try dsimp only at hSw); go_simp); (try (with_reducible rfl))⟩) (by assumption) ?_
                    simp only [Act.put, List.setIfInBounds_toArray, List.set_cons_zero, List.set_cons_succ]
                    refine wpAnyZ_take (i := 7) (oi := { dst := some 115, op := Go.Op.fieldAddr 56 (Go.Operand.tmp 10) 0, type := 0, pos := "law.go:144", after := #[], guard := none }) (v := _) rfl (by kernel_rfl) (by kernel_rfl) (by kernel_rfl) (by kernel_rfl) (by kernel_rfl) (fun _ _ _ h => h) (Or.inl ⟨by rfl, by (intro w' hSw; (try dsimp only at hSw); go_simp); (try (with_reducible rfl))⟩) (by assumption) ?_
                    simp only [Act.put, List.setIfInBounds_toArray, List.set_cons_zero, List.set_cons_succ]
                    refine wpAnyZ_take (i := 8) (oi := { dst := some 116, op := Go.Op.load 3 (Go.Operand.tmp 115), type := 3, pos := "law.go:144", after := #[{ on := 7, ground := Go.Ground.data }], guard := none }) (v := _) rfl (by kernel_rfl) (by kernel_rfl) (by kernel_rfl) (by kernel_rfl) (by kernel_rfl) (fun _ _ _ h => h) (Or.inl ⟨by rfl, by (intro w' hSw; have p0 := (hSw.cell (a := ⟨wr.heap.size, 0, none⟩) ld (by simp)).trans d0; have p2 := (hSw.cell (a := ⟨wr.heap.size, 2, none⟩) ld (by simp)).trans d2; have p3 := (hSw.cell (a := ⟨w8.heap.size, 0, none⟩) lq (by simp)).trans q0; have p4 := (hSw.cell (a := ⟨w8.heap.size, 2, none⟩) lq (by simp)).trans q2; (try dsimp only at hSw); go_simp); (try (with_reducible rfl))⟩) (by assumption) ?_
                    simp only [Act.put, List.setIfInBounds_toArray, List.set_cons_zero, List.set_cons_succ]
                    refine wpAnyZ_take (i := 9) (oi := { dst := some 117, op := Go.Op.fieldAddr 56 (Go.Operand.tmp 10) 2, type := 0, pos := "law.go:144", after := #[], guard := none }) (v := _) rfl (by kernel_rfl) (by kernel_rfl) (by kernel_rfl) (by kernel_rfl) (by kernel_rfl) (fun _ _ _ h => h) (Or.inl ⟨by rfl, by (intro w' hSw; (try dsimp only at hSw); go_simp); (try (with_reducible rfl))⟩) (by assumption) ?_
                    simp only [Act.put, List.setIfInBounds_toArray, List.set_cons_zero, List.set_cons_succ]
                    refine wpAnyZ_take (i := 10) (oi := { dst := some 118, op := Go.Op.load 3 (Go.Operand.tmp 117), type := 3, pos := "law.go:144", after := #[{ on := 9, ground := Go.Ground.data }], guard := none }) (v := _) rfl (by kernel_rfl) (by kernel_rfl) (by kernel_rfl) (by kernel_rfl) (by kernel_rfl) (fun _ _ _ h => h) (Or.inl ⟨by rfl, by (intro w' hSw; have p0 := (hSw.cell (a := ⟨wr.heap.size, 0, none⟩) ld (by simp)).trans d0; have p2 := (hSw.cell (a := ⟨wr.heap.size, 2, none⟩) ld (by simp)).trans d2; have p3 := (hSw.cell (a := ⟨w8.heap.size, 0, none⟩) lq (by simp)).trans q0; have p4 := (hSw.cell (a := ⟨w8.heap.size, 2, none⟩) lq (by simp)).trans q2; (try dsimp only at hSw); go_simp); (try (with_reducible rfl))⟩) (by assumption) ?_
                    simp only [Act.put, List.setIfInBounds_toArray, List.set_cons_zero, List.set_cons_succ]
                    refine wpAnyZ_ready (rs := [5]) (by kernel_rfl) (by simp) ?_
                    refine ZedOne.cons (o := { dst := some 113, op := Go.Op.call { callee := Go.Callee.value (Go.Operand.func 15), args := #[Go.Operand.tmp 108, Go.Operand.tmp 110, Go.Operand.tmp 112], argTypes := #[53, 3, 3] }, type := 53, pos := "law.go:144", after := #[{ on := 0, ground := Go.Ground.data }, { on := 2, ground := Go.Ground.data }, { on := 4, ground := Go.Ground.data }], guard := none }) rfl (fun K hK => ?_) ?_
                    go_simp
                    refine (rscore_int (key f) _ _ (by omega) (by omega) _).mono ?_
                    rintro en w12 ⟨rfl, rfl⟩
                    dsimp only
                    refine hK.out _ _ ?_ (fun hSn => ?_)
                    · exact hS
                    clear hK K hS
                    have hS := hSn
                    clear hSn
                    (try simp only [Act.put, List.setIfInBounds_toArray, List.set_cons_zero, List.set_cons_succ])
                    refine wpAnyZ_ready (rs := [11]) (by kernel_rfl) (by simp) ?_
                    refine ZedOne.cons (o := { dst := some 119, op := Go.Op.call { callee := Go.Callee.value (Go.Operand.func 15), args := #[Go.Operand.tmp 114, Go.Operand.tmp 116, Go.Operand.tmp 118], argTypes := #[53, 3, 3] }, type := 53, pos := "law.go:144", after := #[{ on := 6, ground := Go.Ground.data }, { on := 8, ground := Go.Ground.data }, { on := 10, ground := Go.Ground.data }, { on := 5, ground := Go.Ground.chain }], guard := none }) rfl (fun K hK => ?_) ?_
                    go_simp
                    refine (rscore_int (key f) _ _ (by omega) (by omega) _).mono ?_
                    rintro en w12 ⟨rfl, rfl⟩
                    dsimp only
                    refine hK.out _ _ ?_ (fun hSn => ?_)
                    · exact hS
                    clear hK K hS
                    have hS := hSn
                    clear hSn
                    (try simp only [Act.put, List.setIfInBounds_toArray, List.set_cons_zero, List.set_cons_succ])
                    refine wpAnyZ_ready (rs := [12]) (by kernel_rfl) (by simp) ?_
                    refine ZedOne.last (o := { dst := some 120, op := Go.Op.binOp Go.BinOp.gtr 53 (Go.Operand.tmp 113) (Go.Operand.tmp 119) 53, type := 4, pos := "law.go:144", after := #[{ on := 5, ground := Go.Ground.data }, { on := 11, ground := Go.Ground.data }], guard := none }) rfl (fun K hK => ?_)
                    go_simp
                    refine hK.out _ _ ?_
                    clear hK K hS
                    (try simp only [Act.put, List.setIfInBounds_toArray, List.set_cons_zero, List.set_cons_succ])
                    refine wpAnyZ_done (by kernel_rfl) ?_ _
                    rotate_left 1
                    exact ZedOne.nil
                    exact ZedOne.nil
                    all_goals go_wp2
                    all_goals try (exfalso; have hse := of_decide_eq_false hsd; rw [show y.id = m.id by assumption] at hse; exact hse (by assumption))
                    all_goals obtain ⟨hfb, hfr, _⟩ := HK.out
                    all_goals have hW := HW.out
                    all_goals refine ⟨⟨k + 1, ?_, ?_, _, rfl, ?_, ?_⟩, ?_⟩
                    all_goals first
                      | omega
                      | (go_num; done)
                      | (simp [intOf]; omega)
                      | (intro h; exact absurd (hfb (by have := HI.out; omega)) (by simp))
                      | exact hfr.trans hW (by simp)
                      | exact (hfr.trans hW (by simp)).drew
                      | exact (hfr.trans hW (by simp)).drewN _
                      | exact Fr.drew (Fr.drew (hfr.trans hW (by simp)))
            · obtain rfl : k = n := by omega
              have hft := hfb hin
              subst hft
              have HK := Lib.hid (hF.trans (Fr.trans (S := []) (by (repeat (first | (with_reducible exact Fr.refl _ _) | (with_reducible assumption) | (with_reducible refine Fr.drew ?_) | (with_reducible refine Fr.drewN ?_ _) | (with_reducible refine Fr.alloc ?_ _) | (with_reducible refine Fr.mput ?_ _ _ _ (.inl (by simp))) | (with_reducible refine Fr.mdel ?_ _ _ (.inl (by simp))) | (with_reducible refine Fr.set ?_ _ _ (.inr (by first | omega | (dsimp only; omega)))) | (with_reducible refine Fr.set ?_ _ _ (.inl (by simp)))))) hfr (by simp)) (by simp))
              clear hfr hfb hn hcells hi0 hmax heok hxb hF hnc
              go_wp2_with fail
              refine (lives_any _).mono ?_
              rintro en w12 ⟨rfl, hfr⟩
              have HL := Lib.hid hfr
              clear hfr
              go_wp2
              go_ret
              exact ⟨rfl, HK.out.trans HL.out (by simp)⟩
        · cases h
        · have hq : quorate P = false := by
            cases hc : quorate P with
            | false => rfl
            | true =>
              rcases hno2 with ⟨h, _⟩ | ⟨_, h | h⟩
              · cases h
              · exact absurd h (quor_elig hB.pool.nodup hc)
              · rw [hc] at h; cases h
          rw [hq]
          clear hq hno2
          go_wp2_with fail
          refine (best_uni hB.sib hB.sok now).mono ?_
          rintro en w7 ⟨ba, bb2, bc, bo, rfl, hfr, hbest⟩
          have hXn := hX.fr (Fr.trans (S := []) (by (repeat (first | (with_reducible exact Fr.refl _ _) | (with_reducible assumption) | (with_reducible refine Fr.drew ?_) | (with_reducible refine Fr.drewN ?_ _) | (with_reducible refine Fr.alloc ?_ _) | (with_reducible refine Fr.mput ?_ _ _ _ (.inl (by simp))) | (with_reducible refine Fr.mdel ?_ _ _ (.inl (by simp))) | (with_reducible refine Fr.set ?_ _ _ (.inr (by first | omega | (dsimp only; omega)))) | (with_reducible refine Fr.set ?_ _ _ (.inl (by simp)))))) hfr (by simp))
          have hBn := hB.fr (Fr.trans (S := []) (by (repeat (first | (with_reducible exact Fr.refl _ _) | (with_reducible assumption) | (with_reducible refine Fr.drew ?_) | (with_reducible refine Fr.drewN ?_ _) | (with_reducible refine Fr.alloc ?_ _) | (with_reducible refine Fr.mput ?_ _ _ _ (.inl (by simp))) | (with_reducible refine Fr.mdel ?_ _ _ (.inl (by simp))) | (with_reducible refine Fr.set ?_ _ _ (.inr (by first | omega | (dsimp only; omega)))) | (with_reducible refine Fr.set ?_ _ _ (.inl (by simp)))))) hfr (by simp))
          have hFn := hF.trans (Fr.trans (S := []) (by (repeat (first | (with_reducible exact Fr.refl _ _) | (with_reducible assumption) | (with_reducible refine Fr.drew ?_) | (with_reducible refine Fr.drewN ?_ _) | (with_reducible refine Fr.alloc ?_ _) | (with_reducible refine Fr.mput ?_ _ _ _ (.inl (by simp))) | (with_reducible refine Fr.mdel ?_ _ _ (.inl (by simp))) | (with_reducible refine Fr.set ?_ _ _ (.inr (by first | omega | (dsimp only; omega)))) | (with_reducible refine Fr.set ?_ _ _ (.inl (by simp)))))) hfr (by simp)) (by simp)
          clear hX hB hF hfr f0 f1 f2 f3 f4 fn ft b0 b1 b2 v0 v1 v2 v3 e5 lab lbb lvb leb
          have hX := hXn
          have hB := hBn
          have hF := hFn
          clear hXn hBn hFn
          obtain ⟨⟨f0, f1, f2, f3, f4, fn, ft⟩, ⟨b0, b1, b2⟩, ⟨v0, v1, v2, v3⟩, e5, lab, lbb, lvb, leb⟩ := hX.cells
          rcases haw with (⟨_, rfl, y, hy, hmin, rfl⟩ | ⟨h, _⟩) | ⟨⟨_, hna⟩, rfl⟩
          · rcases hbest with ⟨_, h0⟩ | ⟨rfl, z, hz, hzm, hba⟩
            · rw [h0] at hy; cases hy
            · obtain rfl : ba = y.1 := hba.trans (best_one hz hy hzm hmin)
              dsimp only at v0 v1 v2 v3
              clear hba hz hzm hy hmin
              go_wp2_with fail
              refine (lives_any _).mono ?_
              rintro en w9 ⟨rfl, hfr⟩
              have HL := Lib.hid hfr
              clear hfr
              go_wp2
              go_ret
              exact ⟨rfl, Fr.trans (S := []) (by (repeat (first | (with_reducible exact Fr.refl _ _) | (with_reducible assumption) | (with_reducible refine Fr.drew ?_) | (with_reducible refine Fr.drewN ?_ _) | (with_reducible refine Fr.alloc ?_ _) | (with_reducible refine Fr.mput ?_ _ _ _ (.inl (by simp))) | (with_reducible refine Fr.mdel ?_ _ _ (.inl (by simp))) | (with_reducible refine Fr.set ?_ _ _ (.inr (by first | omega | (dsimp only; omega)))) | (with_reducible refine Fr.set ?_ _ _ (.inl (by simp)))))) HL.out (by simp)⟩
          · cases h
          · dsimp only at v0 v1 v2 v3
            cases bo with
            | false =>
              clear hna hbest
              go_wp2_with fail
              refine (lives_any _).mono ?_
              rintro en w9 ⟨rfl, hfr⟩
              have HL := Lib.hid hfr
              clear hfr
              go_wp2
              go_ret
              exact ⟨rfl, Fr.trans (S := []) (by (repeat (first | (with_reducible exact Fr.refl _ _) | (with_reducible assumption) | (with_reducible refine Fr.drew ?_) | (with_reducible refine Fr.drewN ?_ _) | (with_reducible refine Fr.alloc ?_ _) | (with_reducible refine Fr.mput ?_ _ _ _ (.inl (by simp))) | (with_reducible refine Fr.mdel ?_ _ _ (.inl (by simp))) | (with_reducible refine Fr.set ?_ _ _ (.inr (by first | omega | (dsimp only; omega)))) | (with_reducible refine Fr.set ?_ _ _ (.inl (by simp)))))) HL.out (by simp)⟩
            | true =>
              obtain rfl : tun = true := by
                rcases hbest with ⟨h, _⟩ | ⟨_, z, hz, _⟩
                · cases h
                · rcases hna with ⟨h, _⟩ | ⟨_, h | h⟩
                  · cases h
                  · rw [h] at hz; cases hz
                  · exact h
              clear hna hbest
              go_wp2_with fail
              refine (lives_any _).mono ?_
              rintro en w9 ⟨rfl, hfr⟩
              have HL := Lib.hid hfr
              clear hfr
              go_wp2
              go_ret
              exact ⟨rfl, Fr.trans (S := []) (by (repeat (first | (with_reducible exact Fr.refl _ _) | (with_reducible assumption) | (with_reducible refine Fr.drew ?_) | (with_reducible refine Fr.drewN ?_ _) | (with_reducible refine Fr.alloc ?_ _) | (with_reducible refine Fr.mput ?_ _ _ _ (.inl (by simp))) | (with_reducible refine Fr.mdel ?_ _ _ (.inl (by simp))) | (with_reducible refine Fr.set ?_ _ _ (.inr (by first | omega | (dsimp only; omega)))) | (with_reducible refine Fr.set ?_ _ _ (.inl (by simp)))))) HL.out (by simp)⟩
      · clear hno hoff
        have hX : RBox (w4.alloc (.cells #[.int .i64 0, .int .u32 0, .int .u32 0, .int .i64 0, .int .i64 0, .int .i64 0, .int .i64 0] 49)) ab bb vb w4.heap.size f now tun t p s u q r v 0 :=
          ⟨by rw [heap_old _ _ (lt_of hab)]; exact hab, by rw [heap_old _ _ (lt_of hbb)]; exact hbb, by rw [heap_old _ _ (lt_of hvb)]; exact hvb, _, _, _, _, _, _, heap_new w4 _⟩
        have hBa := hB.fr ((Fr.refl [] w4).alloc (.cells #[.int .i64 0, .int .u32 0, .int .u32 0, .int .i64 0, .int .i64 0, .int .i64 0, .int .i64 0] 49))
        have hFa := hF.alloc (.cells #[.int .i64 0, .int .u32 0, .int .u32 0, .int .i64 0, .int .i64 0, .int .i64 0, .int .i64 0] 49)
        obtain ⟨⟨f0, f1, f2, f3, f4, fn, ft⟩, ⟨b0, b1, b2⟩, ⟨v0, v1, v2, v3⟩, e5, lab, lbb, lvb, leb⟩ := hX.cells
        clear hab hbb hvb hB hF

        have hB := hBa
        have hF := hFa
        clear hBa hFa
        go_wp2_with fail
        refine (quorate_any hB.pool hB.pok hB.p0 hB.p1).mono ?_
        rintro en w6 ⟨rfl, hfr⟩
        have hXn := hX.fr (Fr.trans (S := []) (by (repeat (first | (with_reducible exact Fr.refl _ _) | (with_reducible assumption) | (with_reducible refine Fr.drew ?_) | (with_reducible refine Fr.drewN ?_ _) | (with_reducible refine Fr.alloc ?_ _) | (with_reducible refine Fr.mput ?_ _ _ _ (.inl (by simp))) | (with_reducible refine Fr.mdel ?_ _ _ (.inl (by simp))) | (with_reducible refine Fr.set ?_ _ _ (.inr (by first | omega | (dsimp only; omega)))) | (with_reducible refine Fr.set ?_ _ _ (.inl (by simp)))))) hfr (by simp))
        have hBn := hB.fr (Fr.trans (S := []) (by (repeat (first | (with_reducible exact Fr.refl _ _) | (with_reducible assumption) | (with_reducible refine Fr.drew ?_) | (with_reducible refine Fr.drewN ?_ _) | (with_reducible refine Fr.alloc ?_ _) | (with_reducible refine Fr.mput ?_ _ _ _ (.inl (by simp))) | (with_reducible refine Fr.mdel ?_ _ _ (.inl (by simp))) | (with_reducible refine Fr.set ?_ _ _ (.inr (by first | omega | (dsimp only; omega)))) | (with_reducible refine Fr.set ?_ _ _ (.inl (by simp)))))) hfr (by simp))
        have hFn := hF.trans (Fr.trans (S := []) (by (repeat (first | (with_reducible exact Fr.refl _ _) | (with_reducible assumption) | (with_reducible refine Fr.drew ?_) | (with_reducible refine Fr.drewN ?_ _) | (with_reducible refine Fr.alloc ?_ _) | (with_reducible refine Fr.mput ?_ _ _ _ (.inl (by simp))) | (with_reducible refine Fr.mdel ?_ _ _ (.inl (by simp))) | (with_reducible refine Fr.set ?_ _ _ (.inr (by first | omega | (dsimp only; omega)))) | (with_reducible refine Fr.set ?_ _ _ (.inl (by simp)))))) hfr (by simp)) (by simp)
        clear hX hB hF hfr f0 f1 f2 f3 f4 fn ft b0 b1 b2 v0 v1 v2 v3 e5 lab lbb lvb leb
        have hX := hXn
        have hB := hBn
        have hF := hFn
        clear hXn hBn hFn
        obtain ⟨⟨f0, f1, f2, f3, f4, fn, ft⟩, ⟨b0, b1, b2⟩, ⟨v0, v1, v2, v3⟩, e5, lab, lbb, lvb, leb⟩ := hX.cells
        rcases hrest with (⟨_, hq, m, hm, hmax, rfl⟩ | ⟨h, _⟩) | ⟨⟨_, hno2⟩, haw⟩
        · rw [hq]
          dsimp only at v0 v1 v2 v3
          obtain ⟨hpm, hgm, hem⟩ := elig_mem hB.pok hm
          clear hq
          go_wp2_with fail
          refine (rkey_any f _).mono ?_
          rintro en w7 ⟨rfl, hfr⟩
          have hXn := hX.fr (Fr.trans (S := []) (by (repeat (first | (with_reducible exact Fr.refl _ _) | (with_reducible assumption) | (with_reducible refine Fr.drew ?_) | (with_reducible refine Fr.drewN ?_ _) | (with_reducible refine Fr.alloc ?_ _) | (with_reducible refine Fr.mput ?_ _ _ _ (.inl (by simp))) | (with_reducible refine Fr.mdel ?_ _ _ (.inl (by simp))) | (with_reducible refine Fr.set ?_ _ _ (.inr (by first | omega | (dsimp only; omega)))) | (with_reducible refine Fr.set ?_ _ _ (.inl (by simp)))))) hfr (by simp))
          have hBn := hB.fr (Fr.trans (S := []) (by (repeat (first | (with_reducible exact Fr.refl _ _) | (with_reducible assumption) | (with_reducible refine Fr.drew ?_) | (with_reducible refine Fr.drewN ?_ _) | (with_reducible refine Fr.alloc ?_ _) | (with_reducible refine Fr.mput ?_ _ _ _ (.inl (by simp))) | (with_reducible refine Fr.mdel ?_ _ _ (.inl (by simp))) | (with_reducible refine Fr.set ?_ _ _ (.inr (by first | omega | (dsimp only; omega)))) | (with_reducible refine Fr.set ?_ _ _ (.inl (by simp)))))) hfr (by simp))
          have hFn := hF.trans (Fr.trans (S := []) (by (repeat (first | (with_reducible exact Fr.refl _ _) | (with_reducible assumption) | (with_reducible refine Fr.drew ?_) | (with_reducible refine Fr.drewN ?_ _) | (with_reducible refine Fr.alloc ?_ _) | (with_reducible refine Fr.mput ?_ _ _ _ (.inl (by simp))) | (with_reducible refine Fr.mdel ?_ _ _ (.inl (by simp))) | (with_reducible refine Fr.set ?_ _ _ (.inr (by first | omega | (dsimp only; omega)))) | (with_reducible refine Fr.set ?_ _ _ (.inl (by simp)))))) hfr (by simp)) (by simp)
          clear hX hB hF hfr f0 f1 f2 f3 f4 fn ft b0 b1 b2 v0 v1 v2 v3 e5 lab lbb lvb leb
          have hX := hXn
          have hB := hBn
          have hF := hFn
          clear hXn hBn hFn
          obtain ⟨⟨f0, f1, f2, f3, f4, fn, ft⟩, ⟨b0, b1, b2⟩, ⟨v0, v1, v2, v3⟩, e5, lab, lbb, lvb, leb⟩ := hX.cells
          dsimp only at v0 v1 v2 v3
          go_wp2_with fail
          refine (get_backend hB.pool m.id).mono ?_
          rw [hpm, hgm]
          rintro en w8 ⟨rfl, hfr⟩
          have hXn := hX.fr (Fr.trans (S := []) (by (repeat (first | (with_reducible exact Fr.refl _ _) | (with_reducible assumption) | (with_reducible refine Fr.drew ?_) | (with_reducible refine Fr.drewN ?_ _) | (with_reducible refine Fr.alloc ?_ _) | (with_reducible refine Fr.mput ?_ _ _ _ (.inl (by simp))) | (with_reducible refine Fr.mdel ?_ _ _ (.inl (by simp))) | (with_reducible refine Fr.set ?_ _ _ (.inr (by first | omega | (dsimp only; omega)))) | (with_reducible refine Fr.set ?_ _ _ (.inl (by simp)))))) hfr (by simp))
          have hBn := hB.fr (Fr.trans (S := []) (by (repeat (first | (with_reducible exact Fr.refl _ _) | (with_reducible assumption) | (with_reducible refine Fr.drew ?_) | (with_reducible refine Fr.drewN ?_ _) | (with_reducible refine Fr.alloc ?_ _) | (with_reducible refine Fr.mput ?_ _ _ _ (.inl (by simp))) | (with_reducible refine Fr.mdel ?_ _ _ (.inl (by simp))) | (with_reducible refine Fr.set ?_ _ _ (.inr (by first | omega | (dsimp only; omega)))) | (with_reducible refine Fr.set ?_ _ _ (.inl (by simp)))))) hfr (by simp))
          have hFn := hF.trans (Fr.trans (S := []) (by (repeat (first | (with_reducible exact Fr.refl _ _) | (with_reducible assumption) | (with_reducible refine Fr.drew ?_) | (with_reducible refine Fr.drewN ?_ _) | (with_reducible refine Fr.alloc ?_ _) | (with_reducible refine Fr.mput ?_ _ _ _ (.inl (by simp))) | (with_reducible refine Fr.mdel ?_ _ _ (.inl (by simp))) | (with_reducible refine Fr.set ?_ _ _ (.inr (by first | omega | (dsimp only; omega)))) | (with_reducible refine Fr.set ?_ _ _ (.inl (by simp)))))) hfr (by simp)) (by simp)
          clear hX hB hF hfr f0 f1 f2 f3 f4 fn ft b0 b1 b2 v0 v1 v2 v3 e5 lab lbb lvb leb
          have hX := hXn
          have hB := hBn
          have hF := hFn
          clear hXn hBn hFn
          obtain ⟨⟨f0, f1, f2, f3, f4, fn, ft⟩, ⟨b0, b1, b2⟩, ⟨v0, v1, v2, v3⟩, e5, lab, lbb, lvb, leb⟩ := hX.cells
          dsimp only at v0 v1 v2 v3
          clear hpm hgm hem
          go_wp2_with fail
          refine (eligible_fn (hB.fr ((Fr.refl [] w8).alloc _)).pool hB.pok).mono ?_
          rintro en w10 ⟨ve, rfl, hown, hfr⟩
          have hxb := hfr.keep (k := w8.heap.size) (o := .cells #[.int .i64 m.id, .int .u32 m.addr, .int .i64 m.weight] 56 (0, 0)) (heap_new w8 _) (by simp)
          have hXn := hX.fr (Fr.trans (S := []) (by (repeat (first | (with_reducible exact Fr.refl _ _) | (with_reducible assumption) | (with_reducible refine Fr.drew ?_) | (with_reducible refine Fr.drewN ?_ _) | (with_reducible refine Fr.alloc ?_ _) | (with_reducible refine Fr.mput ?_ _ _ _ (.inl (by simp))) | (with_reducible refine Fr.mdel ?_ _ _ (.inl (by simp))) | (with_reducible refine Fr.set ?_ _ _ (.inr (by first | omega | (dsimp only; omega)))) | (with_reducible refine Fr.set ?_ _ _ (.inl (by simp)))))) hfr (by simp))
          have hBn := hB.fr (Fr.trans (S := []) (by (repeat (first | (with_reducible exact Fr.refl _ _) | (with_reducible assumption) | (with_reducible refine Fr.drew ?_) | (with_reducible refine Fr.drewN ?_ _) | (with_reducible refine Fr.alloc ?_ _) | (with_reducible refine Fr.mput ?_ _ _ _ (.inl (by simp))) | (with_reducible refine Fr.mdel ?_ _ _ (.inl (by simp))) | (with_reducible refine Fr.set ?_ _ _ (.inr (by first | omega | (dsimp only; omega)))) | (with_reducible refine Fr.set ?_ _ _ (.inl (by simp)))))) hfr (by simp))
          have hFn := hF.trans (Fr.trans (S := []) (by (repeat (first | (with_reducible exact Fr.refl _ _) | (with_reducible assumption) | (with_reducible refine Fr.drew ?_) | (with_reducible refine Fr.drewN ?_ _) | (with_reducible refine Fr.alloc ?_ _) | (with_reducible refine Fr.mput ?_ _ _ _ (.inl (by simp))) | (with_reducible refine Fr.mdel ?_ _ _ (.inl (by simp))) | (with_reducible refine Fr.set ?_ _ _ (.inr (by first | omega | (dsimp only; omega)))) | (with_reducible refine Fr.set ?_ _ _ (.inl (by simp)))))) hfr (by simp)) (by simp)
          clear hX hB hF hfr f0 f1 f2 f3 f4 fn ft b0 b1 b2 v0 v1 v2 v3 e5 lab lbb lvb leb
          have hX := hXn
          have hB := hBn
          have hF := hFn
          clear hXn hBn hFn
          obtain ⟨⟨f0, f1, f2, f3, f4, fn, ft⟩, ⟨b0, b1, b2⟩, ⟨v0, v1, v2, v3⟩, e5, lab, lbb, lvb, leb⟩ := hX.cells
          dsimp only at v0 v1 v2 v3
          obtain ⟨ad, cp, rfl, hnc, hcells⟩ := own_form hown
          obtain ⟨n, hn⟩ : ∃ n, (eligible P).length = n := ⟨_, rfl⟩
          rw [hn] at hnc hcells ⊢
          obtain ⟨i0, hi0⟩ := List.mem_iff_getElem?.1 hm
          have hin : i0 < n := by rw [← hn]; exact (List.getElem?_eq_some_iff.1 hi0).1
          have hn16 : n ≤ 16 := by rw [← hn]; exact (elig_ok hB.pok).1
          have heok := (elig_ok hB.pok).2
          have HE := Lib.hid (And.intro hn (And.intro hcells (And.intro hi0 (And.intro hmax (And.intro heok (And.intro hxb (And.intro hF hnc)))))))
          have hwt := heok m hm
          clear hn hcells hi0 hmax heok hown hm hF hB hX hxb hnc f0 f1 f2 f3 f4 fn ft b0 b1 b2 v0 v1 v2 v3 e5 lab lbb lvb leb
          go_wp2
          go_loopw [12, 98] (fun fd i wr => ERel w10 n i0 fd i wr) (fun _ i _ => n - (intOf i).toNat)
          case atStart => exact ⟨0, Nat.zero_le _, rfl, false, rfl, fun h => absurd h (by omega), Fr.refl _ _⟩
          case round =>
            obtain ⟨k, hk, rfl, fb, rfl, hfb, hfr⟩ := hrel
            obtain ⟨hn, hcells, hi0, hmax, heok, hxb, hF, hnc⟩ := HE.out
            by_cases hlt : k < n
            · obtain ⟨g, rfl, hgb, hgl, hcell⟩ := hcells (by omega)
              obtain ⟨y, hy⟩ : ∃ y, (eligible P)[k]? = some y := ⟨(eligible P)[k]'(by rw [hn]; exact hlt), List.getElem?_eq_getElem _⟩
              have hym := List.mem_of_getElem? hy
              have hs := hmax y hym
              have hyw := heok y hym
              have cc := fun (q : Nat) (u : Value) (hu : (bcells y)[q]? = some u) => (hfr.cell (a := ⟨g, k * 3 + q, none⟩) hgl (by simp)).trans (hcell _ _ (flat_at (k := 3) (enc := bcells) (fun _ => rfl) hy hu))
              have k0 : wr.cell? ⟨g, k * 3, none⟩ = some (.int .i64 y.id) := cc 0 _ rfl
              have k1 : wr.cell? ⟨g, k * 3 + 1, none⟩ = some (.int .u32 y.addr) := cc 1 _ rfl
              have k2 : wr.cell? ⟨g, k * 3 + 2, none⟩ = some (.int .i64 y.weight) := cc 2 _ rfl
              obtain ⟨⟨x0, x1, x2⟩, _⟩ := backend_cells (hfr.keep hxb (by simp))
              have lxb := lt_of (hfr.keep hxb (by simp))
              have hgl' : g < wr.heap.size := Nat.lt_of_lt_of_le hgl hfr.size
              have j0 : (0 : Int) ≤ k := by omega
              have j1 : (k : Int) < n := by omega
              have hcp : n ≤ cp := by omega
              have hsd : decide (score (key f) m.id m.weight < score (key f) y.id y.weight) = false := decide_eq_false (by omega)
              have HK := Lib.hid (And.intro hfb (And.intro hfr (And.intro hi0 hy)))
              clear cc hcell hs hfb hfr hi0 hn hcells hmax heok hxb hF hnc hym
              cases fb with
              | true =>
                go_wp2
                first
                  | (obtain ⟨w11, hw11⟩ : ∃ w11, w11 = wr.alloc (.cells #[.int .i64 y.id, .int .u32 y.addr, .int .i64 y.weight] 56) := ⟨_, rfl⟩; rw [← hw11]; have hy11 : w11.heap[wr.heap.size]? = some (.cells #[.int .i64 y.id, .int .u32 y.addr, .int .i64 y.weight] 56 (0, 0)) := by rw [hw11]; exact heap_new wr _)
                  | (obtain ⟨w11, hw11⟩ : ∃ w11, w11 = wr.alloc (.cells #[.int .i64 m.id, .int .u32 y.addr, .int .i64 y.weight] 56) := ⟨_, rfl⟩; rw [← hw11]; have hy11 : w11.heap[wr.heap.size]? = some (.cells #[.int .i64 m.id, .int .u32 y.addr, .int .i64 y.weight] 56 (0, 0)) := by rw [hw11]; exact heap_new wr _)
                  | (obtain ⟨w11, hw11⟩ : ∃ w11, w11 = wr.alloc (.cells #[.int .i64 m.id, .int .u32 m.addr, .int .i64 y.weight] 56) := ⟨_, rfl⟩; rw [← hw11]; have hy11 : w11.heap[wr.heap.size]? = some (.cells #[.int .i64 m.id, .int .u32 m.addr, .int .i64 y.weight] 56 (0, 0)) := by rw [hw11]; exact heap_new wr _)
                  | (obtain ⟨w11, hw11⟩ : ∃ w11, w11 = wr.alloc (.cells #[.int .i64 m.id, .int .u32 m.addr, .int .i64 m.weight] 56) := ⟨_, rfl⟩; rw [← hw11]; have hy11 : w11.heap[wr.heap.size]? = some (.cells #[.int .i64 m.id, .int .u32 m.addr, .int .i64 m.weight] 56 (0, 0)) := by rw [hw11]; exact heap_new wr _)
                have hx11 : Fr [] wr w11 := by rw [hw11]; exact (Fr.refl _ _).alloc _
                obtain ⟨⟨d0, d1, d2⟩, _⟩ := backend_cells hy11
                have ld := lt_of hy11
                have q0 := (hx11.cell (a := ⟨w8.heap.size, 0, none⟩) lxb (by simp)).trans x0
                have q2 := (hx11.cell (a := ⟨w8.heap.size, 2, none⟩) lxb (by simp)).trans x2
                have lq : w8.heap.size < w11.heap.size := Nat.lt_of_lt_of_le lxb hx11.size
                have HW := Lib.hid hx11
                clear hw11 hy11 hx11 x0 x1 x2 k0 k1 k2
                refine wp_region_zed (P := Tryz.prog) (fun wz => Fr [] w11 wz) 12 (by kernel_rfl) ?_ (fun hS => ?_)
                · exact (Fr.refl [] _).drew
                refine wpAnyZ_take (i := 0) (oi := { dst := some 108, op := Go.Op.move (Go.Operand.tmp 9), type := 53, pos := "law.go:144", after := #[], guard := none }) (v := _) rfl (by kernel_rfl) (by kernel_rfl) (by kernel_rfl) (by kernel_rfl) (by kernel_rfl) (fun _ _ _ h => h) (Or.inl ⟨by rfl, by (intro w' hSw; (try dsimp only at hSw); go_simp); (try (with_reducible rfl))⟩) (by assumption) ?_
                simp only [Act.put, List.setIfInBounds_toArray, List.set_cons_zero, List.set_cons_succ]
                refine wpAnyZ_take (i := 1) (oi := { dst := some 109, op := Go.Op.fieldAddr 56 (Go.Operand.tmp 14) 0, type := 0, pos := "law.go:144", after := #[], guard := none }) (v := _) rfl (by kernel_rfl) (by kernel_rfl) (by kernel_rfl) (by kernel_rfl) (by kernel_rfl) (fun _ _ _ h => h) (Or.inl ⟨by rfl, by (intro w' hSw; (try dsimp only at hSw); go_simp); (try (with_reducible rfl))⟩) (by assumption) ?_
                simp only [Act.put, List.setIfInBounds_toArray, List.set_cons_zero, List.set_cons_succ]
                refine wpAnyZ_take (i := 2) (oi := { dst := some 110, op := Go.Op.load 3 (Go.Operand.tmp 109), type := 3, pos := "law.go:144", after := #[{ on := 1, ground := Go.Ground.data }], guard := none }) (v := _) rfl (by kernel_rfl) (by kernel_rfl) (by kernel_rfl) (by kernel_rfl) (by kernel_rfl) (fun _ _ _ h => h) (Or.inl ⟨by rfl, by (intro w' hSw; have p0 := (hSw.cell (a := ⟨wr.heap.size, 0, none⟩) ld (by simp)).trans d0; have p2 := (hSw.cell (a := ⟨wr.heap.size, 2, none⟩) ld (by simp)).trans d2; have p3 := (hSw.cell (a := ⟨w8.heap.size, 0, none⟩) lq (by simp)).trans q0; have p4 := (hSw.cell (a := ⟨w8.heap.size, 2, none⟩) lq (by simp)).trans q2; (try dsimp only at hSw); go_simp); (try (with_reducible rfl))⟩) (by assumption) ?_
                simp only [Act.put, List.setIfInBounds_toArray, List.set_cons_zero, List.set_cons_succ]
                refine wpAnyZ_take (i := 3) (oi := { dst := some 111, op := Go.Op.fieldAddr 56 (Go.Operand.tmp 14) 2, type := 0, pos := "law.go:144", after := #[], guard := none }) (v := _) rfl (by kernel_rfl) (by kernel_rfl) (by kernel_rfl) (by kernel_rfl) (by kernel_rfl) (fun _ _ _ h => h) (Or.inl ⟨by rfl, by (intro w' hSw; (try dsimp only at hSw); go_simp); (try (with_reducible rfl))⟩) (by assumption) ?_
                simp only [Act.put, List.setIfInBounds_toArray, List.set_cons_zero, List.set_cons_succ]
                refine wpAnyZ_take (i := 4) (oi := { dst := some 112, op := Go.Op.load 3 (Go.Operand.tmp 111), type := 3, pos := "law.go:144", after := #[{ on := 3, ground := Go.Ground.data }], guard := none }) (v := _) rfl (by kernel_rfl) (by kernel_rfl) (by kernel_rfl) (by kernel_rfl) (by kernel_rfl) (fun _ _ _ h => h) (Or.inl ⟨by rfl, by (intro w' hSw; have p0 := (hSw.cell (a := ⟨wr.heap.size, 0, none⟩) ld (by simp)).trans d0; have p2 := (hSw.cell (a := ⟨wr.heap.size, 2, none⟩) ld (by simp)).trans d2; have p3 := (hSw.cell (a := ⟨w8.heap.size, 0, none⟩) lq (by simp)).trans q0; have p4 := (hSw.cell (a := ⟨w8.heap.size, 2, none⟩) lq (by simp)).trans q2; (try dsimp only at hSw); go_simp); (try (with_reducible rfl))⟩) (by assumption) ?_
                simp only [Act.put, List.setIfInBounds_toArray, List.set_cons_zero, List.set_cons_succ]
                refine wpAnyZ_take (i := 6) (oi := { dst := some 114, op := Go.Op.move (Go.Operand.tmp 9), type := 53, pos := "law.go:144", after := #[], guard := none }) (v := _) rfl (by kernel_rfl) (by kernel_rfl) (by kernel_rfl) (by kernel_rfl) (by kernel_rfl) (fun _ _ _ h => h) (Or.inl ⟨by rfl, by (intro w' hSw; (try dsimp only at hSw); go_simp); (try (with_reducible rfl))⟩) (by assumption) ?_
                simp only [Act.put, List.setIfInBounds_toArray, List.set_cons_zero, List.set_cons_succ]
                refine wpAnyZ_take (i := 7) (oi := { dst := some 115, op := Go.Op.fieldAddr 56 (Go.Operand.tmp 10) 0, type := 0, pos := "law.go:144", after := #[], guard := none }) (v := _) rfl (by kernel_rfl) (by kernel_rfl) (by kernel_rfl) (by kernel_rfl) (by kernel_rfl) (fun _ _ _ h => h) (Or.inl ⟨by rfl, by (intro w' hSw; (try dsimp only at hSw); go_simp); (try (with_reducible rfl))⟩) (by assumption) ?_
                simp only [Act.put, List.setIfInBounds_toArray, List.set_cons_zero, List.set_cons_succ]
                refine wpAnyZ_take (i := 8) (oi := { dst := some 116, op := Go.Op.load 3 (Go.Operand.tmp 115), type := 3, pos := "law.go:144", after := #[{ on := 7, ground := Go.Ground.data }], guard := none }) (v := _) rfl (by kernel_rfl) (by kernel_rfl) (by kernel_rfl) (by kernel_rfl) (by kernel_rfl) (fun _ _ _ h => h) (Or.inl ⟨by rfl, by (intro w' hSw; have p0 := (hSw.cell (a := ⟨wr.heap.size, 0, none⟩) ld (by simp)).trans d0; have p2 := (hSw.cell (a := ⟨wr.heap.size, 2, none⟩) ld (by simp)).trans d2; have p3 := (hSw.cell (a := ⟨w8.heap.size, 0, none⟩) lq (by simp)).trans q0; have p4 := (hSw.cell (a := ⟨w8.heap.size, 2, none⟩) lq (by simp)).trans q2; (try dsimp only at hSw); go_simp); (try (with_reducible rfl))⟩) (by assumption) ?_
                simp only [Act.put, List.setIfInBounds_toArray, List.set_cons_zero, List.set_cons_succ]
                refine wpAnyZ_take (i := 9) (oi := { dst := some 117, op := Go.Op.fieldAddr 56 (Go.Operand.tmp 10) 2, type := 0, pos := "law.go:144", after := #[], guard := none }) (v := _) rfl (by kernel_rfl) (by kernel_rfl) (by kernel_rfl) (by kernel_rfl) (by kernel_rfl) (fun _ _ _ h => h) (Or.inl ⟨by rfl, by (intro w' hSw; (try dsimp only at hSw); go_simp); (try (with_reducible rfl))⟩) (by assumption) ?_
                simp only [Act.put, List.setIfInBounds_toArray, List.set_cons_zero, List.set_cons_succ]
                refine wpAnyZ_take (i := 10) (oi := { dst := some 118, op := Go.Op.load 3 (Go.Operand.tmp 117), type := 3, pos := "law.go:144", after := #[{ on := 9, ground := Go.Ground.data }], guard := none }) (v := _) rfl (by kernel_rfl) (by kernel_rfl) (by kernel_rfl) (by kernel_rfl) (by kernel_rfl) (fun _ _ _ h => h) (Or.inl ⟨by rfl, by (intro w' hSw; have p0 := (hSw.cell (a := ⟨wr.heap.size, 0, none⟩) ld (by simp)).trans d0; have p2 := (hSw.cell (a := ⟨wr.heap.size, 2, none⟩) ld (by simp)).trans d2; have p3 := (hSw.cell (a := ⟨w8.heap.size, 0, none⟩) lq (by simp)).trans q0; have p4 := (hSw.cell (a := ⟨w8.heap.size, 2, none⟩) lq (by simp)).trans q2; (try dsimp only at hSw); go_simp); (try (with_reducible rfl))⟩) (by assumption) ?_
                simp only [Act.put, List.setIfInBounds_toArray, List.set_cons_zero, List.set_cons_succ]
                refine wpAnyZ_ready (rs := [5]) (by kernel_rfl) (by simp) ?_
                refine ZedOne.cons (o := { dst := some 113, op := Go.Op.call { callee := Go.Callee.value (Go.Operand.func 15), args := #[Go.Operand.tmp 108, Go.Operand.tmp 110, Go.Operand.tmp 112], argTypes := #[53, 3, 3] }, type := 53, pos := "law.go:144", after := #[{ on := 0, ground := Go.Ground.data }, { on := 2, ground := Go.Ground.data }, { on := 4, ground := Go.Ground.data }], guard := none }) rfl (fun K hK => ?_) ?_
                go_simp
                refine (rscore_int (key f) _ _ (by omega) (by omega) _).mono ?_
                rintro en w12 ⟨rfl, rfl⟩
                dsimp only
                refine hK.out _ _ ?_ (fun hSn => ?_)
                · exact hS
                clear hK K hS
                have hS := hSn
                clear hSn
                (try simp only [Act.put, List.setIfInBounds_toArray, List.set_cons_zero, List.set_cons_succ])
                refine wpAnyZ_ready (rs := [11]) (by kernel_rfl) (by simp) ?_
                refine ZedOne.cons (o := { dst := some 119, op := Go.Op.call { callee := Go.Callee.value (Go.Operand.func 15), args := #[Go.Operand.tmp 114, Go.Operand.tmp 116, Go.Operand.tmp 118], argTypes := #[53, 3, 3] }, type := 53, pos := "law.go:144", after := #[{ on := 6, ground := Go.Ground.data }, { on := 8, ground := Go.Ground.data }, { on := 10, ground := Go.Ground.data }, { on := 5, ground := Go.Ground.chain }], guard := none }) rfl (fun K hK => ?_) ?_
                go_simp
                refine (rscore_int (key f) _ _ (by omega) (by omega) _).mono ?_
                rintro en w12 ⟨rfl, rfl⟩
                dsimp only
                refine hK.out _ _ ?_ (fun hSn => ?_)
                · exact hS
                clear hK K hS
                have hS := hSn
                clear hSn
                (try simp only [Act.put, List.setIfInBounds_toArray, List.set_cons_zero, List.set_cons_succ])
                refine wpAnyZ_ready (rs := [12]) (by kernel_rfl) (by simp) ?_
                refine ZedOne.last (o := { dst := some 120, op := Go.Op.binOp Go.BinOp.gtr 53 (Go.Operand.tmp 113) (Go.Operand.tmp 119) 53, type := 4, pos := "law.go:144", after := #[{ on := 5, ground := Go.Ground.data }, { on := 11, ground := Go.Ground.data }], guard := none }) rfl (fun K hK => ?_)
                go_simp
                refine hK.out _ _ ?_
                clear hK K hS
                (try simp only [Act.put, List.setIfInBounds_toArray, List.set_cons_zero, List.set_cons_succ])
                refine wpAnyZ_done (by kernel_rfl) ?_ _
                rotate_left 1
                exact ZedOne.nil
                exact ZedOne.nil
                all_goals go_wp2
                all_goals try (exfalso; have hse := of_decide_eq_false hsd; rw [show y.id = m.id by assumption] at hse; exact hse (by assumption))
                all_goals obtain ⟨hfb, hfr, _⟩ := HK.out
                all_goals have hW := HW.out
                all_goals refine ⟨⟨k + 1, ?_, ?_, _, rfl, ?_, ?_⟩, ?_⟩
                all_goals first
                  | omega
                  | (go_num; done)
                  | (simp [intOf]; omega)
                  | (intro _; rfl)
                  | exact hfr.trans hW (by simp)
                  | exact (hfr.trans hW (by simp)).drew
                  | exact (hfr.trans hW (by simp)).drewN _
                  | exact Fr.drew (Fr.drew (hfr.trans hW (by simp)))
              | false =>
                by_cases hki : k = i0
                · obtain rfl : y = m := by
                    have h1 := HK.out.2.2.1
                    have h2 := HK.out.2.2.2
                    rw [hki] at h2
                    exact Option.some.inj (h2.symm.trans h1)
                  clear hki
                  go_wp2
                  first
                    | (obtain ⟨w11, hw11⟩ : ∃ w11, w11 = wr.alloc (.cells #[.int .i64 y.id, .int .u32 y.addr, .int .i64 y.weight] 56) := ⟨_, rfl⟩; rw [← hw11]; have hy11 : w11.heap[wr.heap.size]? = some (.cells #[.int .i64 y.id, .int .u32 y.addr, .int .i64 y.weight] 56 (0, 0)) := by rw [hw11]; exact heap_new wr _)
                    | (obtain ⟨w11, hw11⟩ : ∃ w11, w11 = wr.alloc (.cells #[.int .i64 m.id, .int .u32 y.addr, .int .i64 y.weight] 56) := ⟨_, rfl⟩; rw [← hw11]; have hy11 : w11.heap[wr.heap.size]? = some (.cells #[.int .i64 m.id, .int .u32 y.addr, .int .i64 y.weight] 56 (0, 0)) := by rw [hw11]; exact heap_new wr _)
                    | (obtain ⟨w11, hw11⟩ : ∃ w11, w11 = wr.alloc (.cells #[.int .i64 m.id, .int .u32 m.addr, .int .i64 y.weight] 56) := ⟨_, rfl⟩; rw [← hw11]; have hy11 : w11.heap[wr.heap.size]? = some (.cells #[.int .i64 m.id, .int .u32 m.addr, .int .i64 y.weight] 56 (0, 0)) := by rw [hw11]; exact heap_new wr _)
                    | (obtain ⟨w11, hw11⟩ : ∃ w11, w11 = wr.alloc (.cells #[.int .i64 m.id, .int .u32 m.addr, .int .i64 m.weight] 56) := ⟨_, rfl⟩; rw [← hw11]; have hy11 : w11.heap[wr.heap.size]? = some (.cells #[.int .i64 m.id, .int .u32 m.addr, .int .i64 m.weight] 56 (0, 0)) := by rw [hw11]; exact heap_new wr _)
                  have hx11 : Fr [] wr w11 := by rw [hw11]; exact (Fr.refl _ _).alloc _
                  obtain ⟨⟨d0, d1, d2⟩, _⟩ := backend_cells hy11
                  have ld := lt_of hy11
                  have q0 := (hx11.cell (a := ⟨w8.heap.size, 0, none⟩) lxb (by simp)).trans x0
                  have q2 := (hx11.cell (a := ⟨w8.heap.size, 2, none⟩) lxb (by simp)).trans x2
                  have lq : w8.heap.size < w11.heap.size := Nat.lt_of_lt_of_le lxb hx11.size
                  have HW := Lib.hid hx11
                  clear hw11 hy11 hx11 x0 x1 x2 k0 k1 k2
                  refine wp_region_zed (P := Tryz.prog) (fun wz => Fr [] w11 wz) 12 (by kernel_rfl) ?_ (fun hS => ?_)
                  · exact (Fr.refl [] _).drew
                  refine wpAnyZ_take (i := 0) (oi := { dst := some 108, op := Go.Op.move (Go.Operand.tmp 9), type := 53, pos := "law.go:144", after := #[], guard := none }) (v := _) rfl (by kernel_rfl) (by kernel_rfl) (by kernel_rfl) (by kernel_rfl) (by kernel_rfl) (fun _ _ _ h => h) (Or.inl ⟨by rfl, by (intro w' hSw; (try dsimp only at hSw); go_simp); (try (with_reducible rfl))⟩) (by assumption) ?_
                  simp only [Act.put, List.setIfInBounds_toArray, List.set_cons_zero, List.set_cons_succ]
                  refine wpAnyZ_take (i := 1) (oi := { dst := some 109, op := Go.Op.fieldAddr 56 (Go.Operand.tmp 14) 0, type := 0, pos := "law.go:144", after := #[], guard := none }) (v := _) rfl (by kernel_rfl) (by kernel_rfl) (by kernel_rfl) (by kernel_rfl) (by kernel_rfl) (fun _ _ _ h => h) (Or.inl ⟨by rfl, by (intro w' hSw; (try dsimp only at hSw); go_simp); (try (with_reducible rfl))⟩) (by assumption) ?_
                  simp only [Act.put, List.setIfInBounds_toArray, List.set_cons_zero, List.set_cons_succ]
                  refine wpAnyZ_take (i := 2) (oi := { dst := some 110, op := Go.Op.load 3 (Go.Operand.tmp 109), type := 3, pos := "law.go:144", after := #[{ on := 1, ground := Go.Ground.data }], guard := none }) (v := _) rfl (by kernel_rfl) (by kernel_rfl) (by kernel_rfl) (by kernel_rfl) (by kernel_rfl) (fun _ _ _ h => h) (Or.inl ⟨by rfl, by (intro w' hSw; have p0 := (hSw.cell (a := ⟨wr.heap.size, 0, none⟩) ld (by simp)).trans d0; have p2 := (hSw.cell (a := ⟨wr.heap.size, 2, none⟩) ld (by simp)).trans d2; have p3 := (hSw.cell (a := ⟨w8.heap.size, 0, none⟩) lq (by simp)).trans q0; have p4 := (hSw.cell (a := ⟨w8.heap.size, 2, none⟩) lq (by simp)).trans q2; (try dsimp only at hSw); go_simp); (try (with_reducible rfl))⟩) (by assumption) ?_
                  simp only [Act.put, List.setIfInBounds_toArray, List.set_cons_zero, List.set_cons_succ]
                  refine wpAnyZ_take (i := 3) (oi := { dst := some 111, op := Go.Op.fieldAddr 56 (Go.Operand.tmp 14) 2, type := 0, pos := "law.go:144", after := #[], guard := none }) (v := _) rfl (by kernel_rfl) (by kernel_rfl) (by kernel_rfl) (by kernel_rfl) (by kernel_rfl) (fun _ _ _ h => h) (Or.inl ⟨by rfl, by (intro w' hSw; (try dsimp only at hSw); go_simp); (try (with_reducible rfl))⟩) (by assumption) ?_
                  simp only [Act.put, List.setIfInBounds_toArray, List.set_cons_zero, List.set_cons_succ]
                  refine wpAnyZ_take (i := 4) (oi := { dst := some 112, op := Go.Op.load 3 (Go.Operand.tmp 111), type := 3, pos := "law.go:144", after := #[{ on := 3, ground := Go.Ground.data }], guard := none }) (v := _) rfl (by kernel_rfl) (by kernel_rfl) (by kernel_rfl) (by kernel_rfl) (by kernel_rfl) (fun _ _ _ h => h) (Or.inl ⟨by rfl, by (intro w' hSw; have p0 := (hSw.cell (a := ⟨wr.heap.size, 0, none⟩) ld (by simp)).trans d0; have p2 := (hSw.cell (a := ⟨wr.heap.size, 2, none⟩) ld (by simp)).trans d2; have p3 := (hSw.cell (a := ⟨w8.heap.size, 0, none⟩) lq (by simp)).trans q0; have p4 := (hSw.cell (a := ⟨w8.heap.size, 2, none⟩) lq (by simp)).trans q2; (try dsimp only at hSw); go_simp); (try (with_reducible rfl))⟩) (by assumption) ?_
                  simp only [Act.put, List.setIfInBounds_toArray, List.set_cons_zero, List.set_cons_succ]
                  refine wpAnyZ_take (i := 6) (oi := { dst := some 114, op := Go.Op.move (Go.Operand.tmp 9), type := 53, pos := "law.go:144", after := #[], guard := none }) (v := _) rfl (by kernel_rfl) (by kernel_rfl) (by kernel_rfl) (by kernel_rfl) (by kernel_rfl) (fun _ _ _ h => h) (Or.inl ⟨by rfl, by (intro w' hSw; (try dsimp only at hSw); go_simp); (try (with_reducible rfl))⟩) (by assumption) ?_
                  simp only [Act.put, List.setIfInBounds_toArray, List.set_cons_zero, List.set_cons_succ]
                  refine wpAnyZ_take (i := 7) (oi := { dst := some 115, op := Go.Op.fieldAddr 56 (Go.Operand.tmp 10) 0, type := 0, pos := "law.go:144", after := #[], guard := none }) (v := _) rfl (by kernel_rfl) (by kernel_rfl) (by kernel_rfl) (by kernel_rfl) (by kernel_rfl) (fun _ _ _ h => h) (Or.inl ⟨by rfl, by (intro w' hSw; (try dsimp only at hSw); go_simp); (try (with_reducible rfl))⟩) (by assumption) ?_
                  simp only [Act.put, List.setIfInBounds_toArray, List.set_cons_zero, List.set_cons_succ]
                  refine wpAnyZ_take (i := 8) (oi := { dst := some 116, op := Go.Op.load 3 (Go.Operand.tmp 115), type := 3, pos := "law.go:144", after := #[{ on := 7, ground := Go.Ground.data }], guard := none }) (v := _) rfl (by kernel_rfl) (by kernel_rfl) (by kernel_rfl) (by kernel_rfl) (by kernel_rfl) (fun _ _ _ h => h) (Or.inl ⟨by rfl, by (intro w' hSw; have p0 := (hSw.cell (a := ⟨wr.heap.size, 0, none⟩) ld (by simp)).trans d0; have p2 := (hSw.cell (a := ⟨wr.heap.size, 2, none⟩) ld (by simp)).trans d2; have p3 := (hSw.cell (a := ⟨w8.heap.size, 0, none⟩) lq (by simp)).trans q0; have p4 := (hSw.cell (a := ⟨w8.heap.size, 2, none⟩) lq (by simp)).trans q2; (try dsimp only at hSw); go_simp); (try (with_reducible rfl))⟩) (by assumption) ?_
                  simp only [Act.put, List.setIfInBounds_toArray, List.set_cons_zero, List.set_cons_succ]
                  refine wpAnyZ_take (i := 9) (oi := { dst := some 117, op := Go.Op.fieldAddr 56 (Go.Operand.tmp 10) 2, type := 0, pos := "law.go:144", after := #[], guard := none }) (v := _) rfl (by kernel_rfl) (by kernel_rfl) (by kernel_rfl) (by kernel_rfl) (by kernel_rfl) (fun _ _ _ h => h) (Or.inl ⟨by rfl, by (intro w' hSw; (try dsimp only at hSw); go_simp); (try (with_reducible rfl))⟩) (by assumption) ?_
                  simp only [Act.put, List.setIfInBounds_toArray, List.set_cons_zero, List.set_cons_succ]
                  refine wpAnyZ_take (i := 10) (oi := { dst := some 118, op := Go.Op.load 3 (Go.Operand.tmp 117), type := 3, pos := "law.go:144", after := #[{ on := 9, ground := Go.Ground.data }], guard := none }) (v := _) rfl (by kernel_rfl) (by kernel_rfl) (by kernel_rfl) (by kernel_rfl) (by kernel_rfl) (fun _ _ _ h => h) (Or.inl ⟨by rfl, by (intro w' hSw; have p0 := (hSw.cell (a := ⟨wr.heap.size, 0, none⟩) ld (by simp)).trans d0; have p2 := (hSw.cell (a := ⟨wr.heap.size, 2, none⟩) ld (by simp)).trans d2; have p3 := (hSw.cell (a := ⟨w8.heap.size, 0, none⟩) lq (by simp)).trans q0; have p4 := (hSw.cell (a := ⟨w8.heap.size, 2, none⟩) lq (by simp)).trans q2; (try dsimp only at hSw); go_simp); (try (with_reducible rfl))⟩) (by assumption) ?_
                  simp only [Act.put, List.setIfInBounds_toArray, List.set_cons_zero, List.set_cons_succ]
                  refine wpAnyZ_ready (rs := [5]) (by kernel_rfl) (by simp) ?_
                  refine ZedOne.cons (o := { dst := some 113, op := Go.Op.call { callee := Go.Callee.value (Go.Operand.func 15), args := #[Go.Operand.tmp 108, Go.Operand.tmp 110, Go.Operand.tmp 112], argTypes := #[53, 3, 3] }, type := 53, pos := "law.go:144", after := #[{ on := 0, ground := Go.Ground.data }, { on := 2, ground := Go.Ground.data }, { on := 4, ground := Go.Ground.data }], guard := none }) rfl (fun K hK => ?_) ?_
                  go_simp
                  refine (rscore_int (key f) _ _ (by omega) (by omega) _).mono ?_
                  rintro en w12 ⟨rfl, rfl⟩
                  dsimp only
                  refine hK.out _ _ ?_ (fun hSn => ?_)
                  · exact hS
                  clear hK K hS
                  have hS := hSn
                  clear hSn
                  (try simp only [Act.put, List.setIfInBounds_toArray, List.set_cons_zero, List.set_cons_succ])
                  refine wpAnyZ_ready (rs := [11]) (by kernel_rfl) (by simp) ?_
                  refine ZedOne.cons (o := { dst := some 119, op := Go.Op.call { callee := Go.Callee.value (Go.Operand.func 15), args := #[Go.Operand.tmp 114, Go.Operand.tmp 116, Go.Operand.tmp 118], argTypes := #[53, 3, 3] }, type := 53, pos := "law.go:144", after := #[{ on := 6, ground := Go.Ground.data }, { on := 8, ground := Go.Ground.data }, { on := 10, ground := Go.Ground.data }, { on := 5, ground := Go.Ground.chain }], guard := none }) rfl (fun K hK => ?_) ?_
                  go_simp
                  refine (rscore_int (key f) _ _ (by omega) (by omega) _).mono ?_
                  rintro en w12 ⟨rfl, rfl⟩
                  dsimp only
                  refine hK.out _ _ ?_ (fun hSn => ?_)
                  · exact hS
                  clear hK K hS
                  have hS := hSn
                  clear hSn
                  (try simp only [Act.put, List.setIfInBounds_toArray, List.set_cons_zero, List.set_cons_succ])
                  refine wpAnyZ_ready (rs := [12]) (by kernel_rfl) (by simp) ?_
                  refine ZedOne.last (o := { dst := some 120, op := Go.Op.binOp Go.BinOp.gtr 53 (Go.Operand.tmp 113) (Go.Operand.tmp 119) 53, type := 4, pos := "law.go:144", after := #[{ on := 5, ground := Go.Ground.data }, { on := 11, ground := Go.Ground.data }], guard := none }) rfl (fun K hK => ?_)
                  go_simp
                  refine hK.out _ _ ?_
                  clear hK K hS
                  (try simp only [Act.put, List.setIfInBounds_toArray, List.set_cons_zero, List.set_cons_succ])
                  refine wpAnyZ_done (by kernel_rfl) ?_ _
                  rotate_left 1
                  exact ZedOne.nil
                  exact ZedOne.nil
                  all_goals go_wp2
                  all_goals try (exfalso; have hse := of_decide_eq_false hsd; rw [show y.id = m.id by assumption] at hse; exact hse (by assumption))
                  all_goals obtain ⟨hfb, hfr, _⟩ := HK.out
                  all_goals have hW := HW.out
                  all_goals refine ⟨⟨k + 1, ?_, ?_, _, rfl, ?_, ?_⟩, ?_⟩
                  all_goals first
                    | omega
                    | (go_num; done)
                    | (simp [intOf]; omega)
                    | (intro _; rfl)
                    | exact hfr.trans hW (by simp)
                    | exact (hfr.trans hW (by simp)).drew
                    | exact (hfr.trans hW (by simp)).drewN _
                    | exact Fr.drew (Fr.drew (hfr.trans hW (by simp)))
                · have HI := Lib.hid hki
                  clear hki
                  go_wp2
                  all_goals
                    first
                      | (obtain ⟨w11, hw11⟩ : ∃ w11, w11 = wr.alloc (.cells #[.int .i64 y.id, .int .u32 y.addr, .int .i64 y.weight] 56) := ⟨_, rfl⟩; rw [← hw11]; have hy11 : w11.heap[wr.heap.size]? = some (.cells #[.int .i64 y.id, .int .u32 y.addr, .int .i64 y.weight] 56 (0, 0)) := by rw [hw11]; exact heap_new wr _)
                      | (obtain ⟨w11, hw11⟩ : ∃ w11, w11 = wr.alloc (.cells #[.int .i64 m.id, .int .u32 y.addr, .int .i64 y.weight] 56) := ⟨_, rfl⟩; rw [← hw11]; have hy11 : w11.heap[wr.heap.size]? = some (.cells #[.int .i64 m.id, .int .u32 y.addr, .int .i64 y.weight] 56 (0, 0)) := by rw [hw11]; exact heap_new wr _)
                      | (obtain ⟨w11, hw11⟩ : ∃ w11, w11 = wr.alloc (.cells #[.int .i64 m.id, .int .u32 m.addr, .int .i64 y.weight] 56) := ⟨_, rfl⟩; rw [← hw11]; have hy11 : w11.heap[wr.heap.size]? = some (.cells #[.int .i64 m.id, .int .u32 m.addr, .int .i64 y.weight] 56 (0, 0)) := by rw [hw11]; exact heap_new wr _)
                      | (obtain ⟨w11, hw11⟩ : ∃ w11, w11 = wr.alloc (.cells #[.int .i64 m.id, .int .u32 m.addr, .int .i64 m.weight] 56) := ⟨_, rfl⟩; rw [← hw11]; have hy11 : w11.heap[wr.heap.size]? = some (.cells #[.int .i64 m.id, .int .u32 m.addr, .int .i64 m.weight] 56 (0, 0)) := by rw [hw11]; exact heap_new wr _)
                    have hx11 : Fr [] wr w11 := by rw [hw11]; exact (Fr.refl _ _).alloc _
                    obtain ⟨⟨d0, d1, d2⟩, _⟩ := backend_cells hy11
                    have ld := lt_of hy11
                    have q0 := (hx11.cell (a := ⟨w8.heap.size, 0, none⟩) lxb (by simp)).trans x0
                    have q2 := (hx11.cell (a := ⟨w8.heap.size, 2, none⟩) lxb (by simp)).trans x2
                    have lq : w8.heap.size < w11.heap.size := Nat.lt_of_lt_of_le lxb hx11.size
                    have HW := Lib.hid hx11
                    clear hw11 hy11 hx11 x0 x1 x2 k0 k1 k2
                    refine wp_region_zed (P := Tryz.prog) (fun wz => Fr [] w11 wz) 12 (by kernel_rfl) ?_ (fun hS => ?_)
                    · exact (Fr.refl [] _).drew
                    refine wpAnyZ_take (i := 0) (oi := { dst := some 108, op := Go.Op.move (Go.Operand.tmp 9), type := 53, pos := "law.go:144", after := #[], guard := none }) (v := _) rfl (by kernel_rfl) (by kernel_rfl) (by kernel_rfl) (by kernel_rfl) (by kernel_rfl) (fun _ _ _ h => h) (Or.inl ⟨by rfl, by (intro w' hSw; (try dsimp only at hSw); go_simp); (try (with_reducible rfl))⟩) (by assumption) ?_
                    simp only [Act.put, List.setIfInBounds_toArray, List.set_cons_zero, List.set_cons_succ]
                    refine wpAnyZ_take (i := 1) (oi := { dst := some 109, op := Go.Op.fieldAddr 56 (Go.Operand.tmp 14) 0, type := 0, pos := "law.go:144", after := #[], guard := none }) (v := _) rfl (by kernel_rfl) (by kernel_rfl) (by kernel_rfl) (by kernel_rfl) (by kernel_rfl) (fun _ _ _ h => h) (Or.inl ⟨by rfl, by (intro w' hSw; (try dsimp only at hSw); go_simp); (try (with_reducible rfl))⟩) (by assumption) ?_
                    simp only [Act.put, List.setIfInBounds_toArray, List.set_cons_zero, List.set_cons_succ]
                    refine wpAnyZ_take (i := 2) (oi := { dst := some 110, op := Go.Op.load 3 (Go.Operand.tmp 109), type := 3, pos := "law.go:144", after := #[{ on := 1, ground := Go.Ground.data }], guard := none }) (v := _) rfl (by kernel_rfl) (by kernel_rfl) (by kernel_rfl) (by kernel_rfl) (by kernel_rfl) (fun _ _ _ h => h) (Or.inl ⟨by rfl, by (intro w' hSw; have p0 := (hSw.cell (a := ⟨wr.heap.size, 0, none⟩) ld (by simp)).trans d0; have p2 := (hSw.cell (a := ⟨wr.heap.size, 2, none⟩) ld (by simp)).trans d2; have p3 := (hSw.cell (a := ⟨w8.heap.size, 0, none⟩) lq (by simp)).trans q0; have p4 := (hSw.cell (a := ⟨w8.heap.size, 2, none⟩) lq (by simp)).trans q2; (try dsimp only at hSw); go_simp); (try (with_reducible rfl))⟩) (by assumption) ?_
                    simp only [Act.put, List.setIfInBounds_toArray, List.set_cons_zero, List.set_cons_succ]
                    refine wpAnyZ_take (i := 3) (oi := { dst := some 111, op := Go.Op.fieldAddr 56 (Go.Operand.tmp 14) 2, type := 0, pos := "law.go:144", after := #[], guard := none }) (v := _) rfl (by kernel_rfl) (by kernel_rfl) (by kernel_rfl) (by kernel_rfl) (by kernel_rfl) (fun _ _ _ h => h) (Or.inl ⟨by rfl, by (intro w' hSw; (try dsimp only at hSw); go_simp); (try (with_reducible rfl))⟩) (by assumption) ?_
                    simp only [Act.put, List.setIfInBounds_toArray, List.set_cons_zero, List.set_cons_succ]
                    refine wpAnyZ_take (i := 4) (oi := { dst := some 112, op := Go.Op.load 3 (Go.Operand.tmp 111), type := 3, pos := "law.go:144", after := #[{ on := 3, ground := Go.Ground.data }], guard := none }) (v := _) rfl (by kernel_rfl) (by kernel_rfl) (by kernel_rfl) (by kernel_rfl) (by kernel_rfl) (fun _ _ _ h => h) (Or.inl ⟨by rfl, by (intro w' hSw; have p0 := (hSw.cell (a := ⟨wr.heap.size, 0, none⟩) ld (by simp)).trans d0; have p2 := (hSw.cell (a := ⟨wr.heap.size, 2, none⟩) ld (by simp)).trans d2; have p3 := (hSw.cell (a := ⟨w8.heap.size, 0, none⟩) lq (by simp)).trans q0; have p4 := (hSw.cell (a := ⟨w8.heap.size, 2, none⟩) lq (by simp)).trans q2; (try dsimp only at hSw); go_simp); (try (with_reducible rfl))⟩) (by assumption) ?_
                    simp only [Act.put, List.setIfInBounds_toArray, List.set_cons_zero, List.set_cons_succ]
                    refine wpAnyZ_take (i := 6) (oi := { dst := some 114, op := Go.Op.move (Go.Operand.tmp 9), type := 53, pos := "law.go:144", after := #[], guard := none }) (v := _) rfl (by kernel_rfl) (by kernel_rfl) (by kernel_rfl) (by kernel_rfl) (by kernel_rfl) (fun _ _ _ h => h) (Or.inl ⟨by rfl, by (intro w' hSw; (try dsimp only at hSw); go_simp); (try (with_reducible rfl))⟩) (by assumption) ?_
                    simp only [Act.put, List.setIfInBounds_toArray, List.set_cons_zero, List.set_cons_succ]
                    refine wpAnyZ_take (i := 7) (oi := { dst := some 115, op := Go.Op.fieldAddr 56 (Go.Operand.tmp 10) 0, type := 0, pos := "law.go:144", after := #[], guard := none }) (v := _) rfl (by kernel_rfl) (by kernel_rfl) (by kernel_rfl) (by kernel_rfl) (by kernel_rfl) (fun _ _ _ h => h) (Or.inl ⟨by rfl, by (intro w' hSw; (try dsimp only at hSw); go_simp); (try (with_reducible rfl))⟩) (by assumption) ?_
                    simp only [Act.put, List.setIfInBounds_toArray, List.set_cons_zero, List.set_cons_succ]
                    refine wpAnyZ_take (i := 8) (oi := { dst := some 116, op := Go.Op.load 3 (Go.Operand.tmp 115), type := 3, pos := "law.go:144", after := #[{ on := 7, ground := Go.Ground.data }], guard := none }) (v := _) rfl (by kernel_rfl) (by kernel_rfl) (by kernel_rfl) (by kernel_rfl) (by kernel_rfl) (fun _ _ _ h => h) (Or.inl ⟨by rfl, by (intro w' hSw; have p0 := (hSw.cell (a := ⟨wr.heap.size, 0, none⟩) ld (by simp)).trans d0; have p2 := (hSw.cell (a := ⟨wr.heap.size, 2, none⟩) ld (by simp)).trans d2; have p3 := (hSw.cell (a := ⟨w8.heap.size, 0, none⟩) lq (by simp)).trans q0; have p4 := (hSw.cell (a := ⟨w8.heap.size, 2, none⟩) lq (by simp)).trans q2; (try dsimp only at hSw); go_simp); (try (with_reducible rfl))⟩) (by assumption) ?_
                    simp only [Act.put, List.setIfInBounds_toArray, List.set_cons_zero, List.set_cons_succ]
                    refine wpAnyZ_take (i := 9) (oi := { dst := some 117, op := Go.Op.fieldAddr 56 (Go.Operand.tmp 10) 2, type := 0, pos := "law.go:144", after := #[], guard := none }) (v := _) rfl (by kernel_rfl) (by kernel_rfl) (by kernel_rfl) (by kernel_rfl) (by kernel_rfl) (fun _ _ _ h => h) (Or.inl ⟨by rfl, by (intro w' hSw; (try dsimp only at hSw); go_simp); (try (with_reducible rfl))⟩) (by assumption) ?_
                    simp only [Act.put, List.setIfInBounds_toArray, List.set_cons_zero, List.set_cons_succ]
                    refine wpAnyZ_take (i := 10) (oi := { dst := some 118, op := Go.Op.load 3 (Go.Operand.tmp 117), type := 3, pos := "law.go:144", after := #[{ on := 9, ground := Go.Ground.data }], guard := none }) (v := _) rfl (by kernel_rfl) (by kernel_rfl) (by kernel_rfl) (by kernel_rfl) (by kernel_rfl) (fun _ _ _ h => h) (Or.inl ⟨by rfl, by (intro w' hSw; have p0 := (hSw.cell (a := ⟨wr.heap.size, 0, none⟩) ld (by simp)).trans d0; have p2 := (hSw.cell (a := ⟨wr.heap.size, 2, none⟩) ld (by simp)).trans d2; have p3 := (hSw.cell (a := ⟨w8.heap.size, 0, none⟩) lq (by simp)).trans q0; have p4 := (hSw.cell (a := ⟨w8.heap.size, 2, none⟩) lq (by simp)).trans q2; (try dsimp only at hSw); go_simp); (try (with_reducible rfl))⟩) (by assumption) ?_
                    simp only [Act.put, List.setIfInBounds_toArray, List.set_cons_zero, List.set_cons_succ]
                    refine wpAnyZ_ready (rs := [5]) (by kernel_rfl) (by simp) ?_
                    refine ZedOne.cons (o := { dst := some 113, op := Go.Op.call { callee := Go.Callee.value (Go.Operand.func 15), args := #[Go.Operand.tmp 108, Go.Operand.tmp 110, Go.Operand.tmp 112], argTypes := #[53, 3, 3] }, type := 53, pos := "law.go:144", after := #[{ on := 0, ground := Go.Ground.data }, { on := 2, ground := Go.Ground.data }, { on := 4, ground := Go.Ground.data }], guard := none }) rfl (fun K hK => ?_) ?_
                    go_simp
                    refine (rscore_int (key f) _ _ (by omega) (by omega) _).mono ?_
                    rintro en w12 ⟨rfl, rfl⟩
                    dsimp only
                    refine hK.out _ _ ?_ (fun hSn => ?_)
                    · exact hS
                    clear hK K hS
                    have hS := hSn
                    clear hSn
                    (try simp only [Act.put, List.setIfInBounds_toArray, List.set_cons_zero, List.set_cons_succ])
                    refine wpAnyZ_ready (rs := [11]) (by kernel_rfl) (by simp) ?_
                    refine ZedOne.cons (o := { dst := some 119, op := Go.Op.call { callee := Go.Callee.value (Go.Operand.func 15), args := #[Go.Operand.tmp 114, Go.Operand.tmp 116, Go.Operand.tmp 118], argTypes := #[53, 3, 3] }, type := 53, pos := "law.go:144", after := #[{ on := 6, ground := Go.Ground.data }, { on := 8, ground := Go.Ground.data }, { on := 10, ground := Go.Ground.data }, { on := 5, ground := Go.Ground.chain }], guard := none }) rfl (fun K hK => ?_) ?_
                    go_simp
                    refine (rscore_int (key f) _ _ (by omega) (by omega) _).mono ?_
                    rintro en w12 ⟨rfl, rfl⟩
                    dsimp only
                    refine hK.out _ _ ?_ (fun hSn => ?_)
                    · exact hS
                    clear hK K hS
                    have hS := hSn
                    clear hSn
                    (try simp only [Act.put, List.setIfInBounds_toArray, List.set_cons_zero, List.set_cons_succ])
                    refine wpAnyZ_ready (rs := [12]) (by kernel_rfl) (by simp) ?_
                    refine ZedOne.last (o := { dst := some 120, op := Go.Op.binOp Go.BinOp.gtr 53 (Go.Operand.tmp 113) (Go.Operand.tmp 119) 53, type := 4, pos := "law.go:144", after := #[{ on := 5, ground := Go.Ground.data }, { on := 11, ground := Go.Ground.data }], guard := none }) rfl (fun K hK => ?_)
                    go_simp
                    refine hK.out _ _ ?_
                    clear hK K hS
                    (try simp only [Act.put, List.setIfInBounds_toArray, List.set_cons_zero, List.set_cons_succ])
                    refine wpAnyZ_done (by kernel_rfl) ?_ _
                    rotate_left 1
                    exact ZedOne.nil
                    exact ZedOne.nil
                    all_goals go_wp2
                    all_goals try (exfalso; have hse := of_decide_eq_false hsd; rw [show y.id = m.id by assumption] at hse; exact hse (by assumption))
                    all_goals obtain ⟨hfb, hfr, _⟩ := HK.out
                    all_goals have hW := HW.out
                    all_goals refine ⟨⟨k + 1, ?_, ?_, _, rfl, ?_, ?_⟩, ?_⟩
                    all_goals first
                      | omega
                      | (go_num; done)
                      | (simp [intOf]; omega)
                      | (intro h; exact absurd (hfb (by have := HI.out; omega)) (by simp))
                      | exact hfr.trans hW (by simp)
                      | exact (hfr.trans hW (by simp)).drew
                      | exact (hfr.trans hW (by simp)).drewN _
                      | exact Fr.drew (Fr.drew (hfr.trans hW (by simp)))
            · obtain rfl : k = n := by omega
              have hft := hfb hin
              subst hft
              have HK := Lib.hid (hF.trans (Fr.trans (S := []) (by (repeat (first | (with_reducible exact Fr.refl _ _) | (with_reducible assumption) | (with_reducible refine Fr.drew ?_) | (with_reducible refine Fr.drewN ?_ _) | (with_reducible refine Fr.alloc ?_ _) | (with_reducible refine Fr.mput ?_ _ _ _ (.inl (by simp))) | (with_reducible refine Fr.mdel ?_ _ _ (.inl (by simp))) | (with_reducible refine Fr.set ?_ _ _ (.inr (by first | omega | (dsimp only; omega)))) | (with_reducible refine Fr.set ?_ _ _ (.inl (by simp)))))) hfr (by simp)) (by simp))
              clear hfr hfb hn hcells hi0 hmax heok hxb hF hnc
              go_wp2_with fail
              refine (lives_any _).mono ?_
              rintro en w12 ⟨rfl, hfr⟩
              have HL := Lib.hid hfr
              clear hfr
              go_wp2
              go_ret
              exact ⟨rfl, HK.out.trans HL.out (by simp)⟩
        · cases h
        · have hq : quorate P = false := by
            cases hc : quorate P with
            | false => rfl
            | true =>
              rcases hno2 with ⟨h, _⟩ | ⟨_, h | h⟩
              · cases h
              · exact absurd h (quor_elig hB.pool.nodup hc)
              · rw [hc] at h; cases h
          rw [hq]
          clear hq hno2
          go_wp2_with fail
          refine (best_uni hB.sib hB.sok now).mono ?_
          rintro en w7 ⟨ba, bb2, bc, bo, rfl, hfr, hbest⟩
          have hXn := hX.fr (Fr.trans (S := []) (by (repeat (first | (with_reducible exact Fr.refl _ _) | (with_reducible assumption) | (with_reducible refine Fr.drew ?_) | (with_reducible refine Fr.drewN ?_ _) | (with_reducible refine Fr.alloc ?_ _) | (with_reducible refine Fr.mput ?_ _ _ _ (.inl (by simp))) | (with_reducible refine Fr.mdel ?_ _ _ (.inl (by simp))) | (with_reducible refine Fr.set ?_ _ _ (.inr (by first | omega | (dsimp only; omega)))) | (with_reducible refine Fr.set ?_ _ _ (.inl (by simp)))))) hfr (by simp))
          have hBn := hB.fr (Fr.trans (S := []) (by (repeat (first | (with_reducible exact Fr.refl _ _) | (with_reducible assumption) | (with_reducible refine Fr.drew ?_) | (with_reducible refine Fr.drewN ?_ _) | (with_reducible refine Fr.alloc ?_ _) | (with_reducible refine Fr.mput ?_ _ _ _ (.inl (by simp))) | (with_reducible refine Fr.mdel ?_ _ _ (.inl (by simp))) | (with_reducible refine Fr.set ?_ _ _ (.inr (by first | omega | (dsimp only; omega)))) | (with_reducible refine Fr.set ?_ _ _ (.inl (by simp)))))) hfr (by simp))
          have hFn := hF.trans (Fr.trans (S := []) (by (repeat (first | (with_reducible exact Fr.refl _ _) | (with_reducible assumption) | (with_reducible refine Fr.drew ?_) | (with_reducible refine Fr.drewN ?_ _) | (with_reducible refine Fr.alloc ?_ _) | (with_reducible refine Fr.mput ?_ _ _ _ (.inl (by simp))) | (with_reducible refine Fr.mdel ?_ _ _ (.inl (by simp))) | (with_reducible refine Fr.set ?_ _ _ (.inr (by first | omega | (dsimp only; omega)))) | (with_reducible refine Fr.set ?_ _ _ (.inl (by simp)))))) hfr (by simp)) (by simp)
          clear hX hB hF hfr f0 f1 f2 f3 f4 fn ft b0 b1 b2 v0 v1 v2 v3 e5 lab lbb lvb leb
          have hX := hXn
          have hB := hBn
          have hF := hFn
          clear hXn hBn hFn
          obtain ⟨⟨f0, f1, f2, f3, f4, fn, ft⟩, ⟨b0, b1, b2⟩, ⟨v0, v1, v2, v3⟩, e5, lab, lbb, lvb, leb⟩ := hX.cells
          rcases haw with (⟨_, rfl, y, hy, hmin, rfl⟩ | ⟨h, _⟩) | ⟨⟨_, hna⟩, rfl⟩
          · rcases hbest with ⟨_, h0⟩ | ⟨rfl, z, hz, hzm, hba⟩
            · rw [h0] at hy; cases hy
            · obtain rfl : ba = y.1 := hba.trans (best_one hz hy hzm hmin)
              dsimp only at v0 v1 v2 v3
              clear hba hz hzm hy hmin
              go_wp2_with fail
              refine (lives_any _).mono ?_
              rintro en w9 ⟨rfl, hfr⟩
              have HL := Lib.hid hfr
              clear hfr
              go_wp2
              go_ret
              exact ⟨rfl, Fr.trans (S := []) (by (repeat (first | (with_reducible exact Fr.refl _ _) | (with_reducible assumption) | (with_reducible refine Fr.drew ?_) | (with_reducible refine Fr.drewN ?_ _) | (with_reducible refine Fr.alloc ?_ _) | (with_reducible refine Fr.mput ?_ _ _ _ (.inl (by simp))) | (with_reducible refine Fr.mdel ?_ _ _ (.inl (by simp))) | (with_reducible refine Fr.set ?_ _ _ (.inr (by first | omega | (dsimp only; omega)))) | (with_reducible refine Fr.set ?_ _ _ (.inl (by simp)))))) HL.out (by simp)⟩
          · cases h
          · dsimp only at v0 v1 v2 v3
            cases bo with
            | false =>
              clear hna hbest
              go_wp2_with fail
              refine (lives_any _).mono ?_
              rintro en w9 ⟨rfl, hfr⟩
              have HL := Lib.hid hfr
              clear hfr
              go_wp2
              go_ret
              exact ⟨rfl, Fr.trans (S := []) (by (repeat (first | (with_reducible exact Fr.refl _ _) | (with_reducible assumption) | (with_reducible refine Fr.drew ?_) | (with_reducible refine Fr.drewN ?_ _) | (with_reducible refine Fr.alloc ?_ _) | (with_reducible refine Fr.mput ?_ _ _ _ (.inl (by simp))) | (with_reducible refine Fr.mdel ?_ _ _ (.inl (by simp))) | (with_reducible refine Fr.set ?_ _ _ (.inr (by first | omega | (dsimp only; omega)))) | (with_reducible refine Fr.set ?_ _ _ (.inl (by simp)))))) HL.out (by simp)⟩
            | true =>
              obtain rfl : tun = true := by
                rcases hbest with ⟨h, _⟩ | ⟨_, z, hz, _⟩
                · cases h
                · rcases hna with ⟨h, _⟩ | ⟨_, h | h⟩
                  · cases h
                  · rw [h] at hz; cases hz
                  · exact h
              clear hna hbest
              go_wp2_with fail
              refine (lives_any _).mono ?_
              rintro en w9 ⟨rfl, hfr⟩
              have HL := Lib.hid hfr
              clear hfr
              go_wp2
              go_ret
              exact ⟨rfl, Fr.trans (S := []) (by (repeat (first | (with_reducible exact Fr.refl _ _) | (with_reducible assumption) | (with_reducible refine Fr.drew ?_) | (with_reducible refine Fr.drewN ?_ _) | (with_reducible refine Fr.alloc ?_ _) | (with_reducible refine Fr.mput ?_ _ _ _ (.inl (by simp))) | (with_reducible refine Fr.mdel ?_ _ _ (.inl (by simp))) | (with_reducible refine Fr.set ?_ _ _ (.inr (by first | omega | (dsimp only; omega)))) | (with_reducible refine Fr.set ?_ _ _ (.inl (by simp)))))) HL.out (by simp)⟩
end Go.Proofs.YthahlimmmnmniaaGreatDoor
