/- The rows of fairwayref25: the rows, find, Add: they return, and touch their own blocks alone. -/
import Derived.Deep.QuietTactic
import Derived.BigQuiet
import Derived.Test.YthahlimmmnmniaaGreatDoorR11
namespace Go.Proofs.YthahlimmmnmniaaGreatDoor
open Go.RowKit Go.Fw

structure QRow where
  id : Int
  addr : Int
  c : Int
  d : Bool
  e : Bool
def qcells (x : QRow) : List Value := [.int .i64 x.id, .int .u32 x.addr, .int .i64 x.c, .bool x.d, .bool x.e]
theorem info_qrow : (Tryz.prog.info? 135).map (fun i => (i.zero, i.size, i.bytes)) = some (some (.agg #[.int .i64 0, .int .u32 0, .int .i64 0, .bool false, .bool false]), 5, 32) := by kernel_rfl

structure QAt (w : World) (q : Nat) (v : Value) (l : List QRow) : Prop where
  tab : ∃ a : Int, a = a ∧ w.heap[q]? = some (.cells #[.int .i64 a, v] 132 (0, 0))
  row : w.ownsRow (q + 1) 135 5 v l.length (l.flatMap qcells)
  len : l.length ≤ 16
def qown (q : Nat) (v : Value) : List Nat := q :: v.ownBlock.toList
theorem QAt.fr {w w' : World} {q : Nat} {v : Value} {l : List QRow} {S : List Nat} (h : QAt w q v l) (hf : Fr S w w') (hS : ∀ k ∈ qown q v, k ∉ S) : QAt w' q v l := by
  obtain ⟨a, _, ht⟩ := h.tab
  refine ⟨⟨a, rfl, hf.keep ht (hS q (by simp [qown]))⟩, ⟨h.row.1, ?_⟩, h.len⟩
  rcases h.row.2 with h1 | ⟨g, cap, cur, rfl, hb, hg, r⟩
  · exact .inl h1
  · exact .inr ⟨g, cap, cur, rfl, hb, hf.keep hg (hS g (by simp [qown, Value.ownBlock])), r⟩
theorem QAt.lt {w : World} {q : Nat} {v : Value} {l : List QRow} (h : QAt w q v l) : ∀ k ∈ qown q v, k < w.heap.size := by
  intro k hk
  obtain ⟨a, _, ht⟩ := h.tab
  rcases List.mem_cons.1 hk with rfl | hk
  · exact lt_of ht
  · exact own_lt h.row k (by simpa using hk)
theorem qcells_one (l : List QRow) : ∀ x ∈ l.flatMap qcells, x.oneCell' = true := by
  intro x hx
  obtain ⟨e, _, he⟩ := List.mem_flatMap.1 hx
  simp [qcells] at he
  rcases he with rfl | rfl | rfl | rfl | rfl <;> rfl
def QPost (w : World) (q : Nat) (v : Value) (en : Ending) (w' : World) : Prop :=
  (∃ x : Int, en = .returned (.int .i64 x)) ∧ ∃ v' l', QAt w' q v' l' ∧ (∀ k ∈ qown q v', k ∈ qown q v ∨ w.heap.size ≤ k) ∧ Fr [q] w w'
theorem q_three {w : World} {b : Nat} {id addr c : Int} (h : w.heap[b]? = some (.cells #[.int .i64 id, .int .u32 addr, .int .i64 c] 56 (0, 0))) :
    w.cell? ⟨b, 0, none⟩ = some (.int .i64 id) ∧ w.cell? ⟨b, 1, none⟩ = some (.int .u32 addr) ∧ w.cell? ⟨b, 2, none⟩ = some (.int .i64 c) := ⟨cell_at h 0 rfl, cell_at h 1 rfl, cell_at h 2 rfl⟩

def QFindPost (n : Nat) (w : World) (en : Ending) (w' : World) : Prop :=
  ∃ r : Int, en = .returned (.int .i64 r) ∧ -1 ≤ r ∧ r < n ∧ Fr [] w w'
def QRel (w1 : World) (n : Nat) (i : Value) (wr : World) : Prop := ∃ k : Nat, k ≤ n ∧ i = .int .i64 k ∧ Fr [] w1 wr

set_option maxHeartbeats 2000000 in
theorem qfind_any {w : World} {q : Nat} {v : Value} {l : List QRow} (h : QAt w q v l) (id : Int) :
    Calls Tryz.prog 63 #[.pointer (some ⟨q, 0, none⟩), .int .i64 id] w (QFindPost l.length w) := by
  obtain ⟨a, _, ht⟩ := h.tab
  have c3 := cell_at ht 1 (v := v) rfl
  obtain ⟨p0, p1, p2, p3, _, _⟩ := lts (lt_of ht)
  obtain ⟨ad, cp, rfl, hnc, hcells⟩ := own_form h.row
  obtain ⟨n, hn⟩ : ∃ n, l.length = n := ⟨_, rfl⟩
  have hlen := h.len
  simp only [hn] at c3 hcells hnc hlen ⊢
  have HC := Lib.hid (And.intro hn (And.intro hnc hcells))
  clear hn hnc hcells ht h
  go_enter Tryz.func63, Tryz.ntmps63
  go_wp2
  go_loopw [12] (fun i wr => QRel w n i wr) (fun i _ => n - (intOf i).toNat)
  case atStart => exact ⟨0, Nat.zero_le _, rfl, Fr.refl _ _⟩
  case round =>
    obtain ⟨j, hj, rfl, hF⟩ := hrel
    obtain ⟨hn, hnc, hcells⟩ := HC.out
    have hqs : q < wr.heap.size := Nat.lt_of_lt_of_le p0 hF.size
    by_cases hlt : j < n
    · obtain ⟨g, rfl, hgb, hg, hcell⟩ := hcells (by omega)
      obtain ⟨e, he⟩ : ∃ e, l[j]? = some e := ⟨l[j], List.getElem?_eq_getElem (by omega)⟩
      have cc := fun (t : Nat) (u : Value) (hu : (qcells e)[t]? = some u) => (hF.cell (a := ⟨g, j * 5 + t, none⟩) hg (by simp)).trans (hcell _ _ (flat_at (k := 5) (fun _ => rfl) he hu))
      have k0 : wr.cell? ⟨g, j * 5, none⟩ = some (.int .i64 e.id) := cc 0 _ rfl
      have k1 := cc 1 _ rfl
      have k2 := cc 2 _ rfl
      have k3 := cc 3 _ rfl
      have k4 := cc 4 _ rfl
      have hg' : g < wr.heap.size := Nat.lt_of_lt_of_le hg hF.size
      have j0 : (0 : Int) ≤ j := by omega
      have j1 : (j : Int) < n := by omega
      have hcp : n ≤ cp := by omega
      have HX := Lib.hid hF
      clear hF cc he hcell hcells hn hnc
      go_wp2
      all_goals have hF := HX.out
      all_goals first
        | (refine ⟨⟨j + 1, ?_, ?_, ?_⟩, ?_⟩
           · omega
           · go_num
           · (repeat (first | (with_reducible exact Fr.refl _ _) | (with_reducible assumption) | (with_reducible refine Fr.drew ?_) | (with_reducible refine Fr.drewN ?_ _) | (with_reducible refine Fr.alloc ?_ _) | (with_reducible refine Fr.mput ?_ _ _ _ (.inl (by simp))) | (with_reducible refine Fr.mdel ?_ _ _ (.inl (by simp))) | (with_reducible refine Fr.set ?_ _ _ (.inr (by first | omega | (dsimp only; omega)))) | (with_reducible refine Fr.set ?_ _ _ (.inl (by simp)))))
           · simp [intOf]
             omega)
        | (go_returns
           refine ⟨j, rfl, ?_, ?_, ?_⟩
           · omega
           · omega
           · (repeat (first | (with_reducible exact Fr.refl _ _) | (with_reducible assumption) | (with_reducible refine Fr.drew ?_) | (with_reducible refine Fr.drewN ?_ _) | (with_reducible refine Fr.alloc ?_ _) | (with_reducible refine Fr.mput ?_ _ _ _ (.inl (by simp))) | (with_reducible refine Fr.mdel ?_ _ _ (.inl (by simp))) | (with_reducible refine Fr.set ?_ _ _ (.inr (by first | omega | (dsimp only; omega)))) | (with_reducible refine Fr.set ?_ _ _ (.inl (by simp))))))
    · clear hcells hnc
      have HX := Lib.hid hF
      clear hF hn
      go_wp2
      go_returns
      exact ⟨-1, rfl, by omega, by omega, HX.out⟩

theorem qcut {w6 : World} {j n base : Nat} {l : List QRow} {v6 : Value} (e : QRow) (h : w6.ownsRow base 135 5 v6 (j + 1 + (n - j)) ((l.flatMap qcells).take (j * 5) ++ qcells e ++ (l.flatMap qcells).drop (j * 5))) (hn : l.length = n) (hj : j ≤ n) :
    w6.ownsRow base 135 5 v6 (l.take j ++ [e] ++ l.drop j).length ((l.take j ++ [e] ++ l.drop j).flatMap qcells) ∧ (l.take j ++ [e] ++ l.drop j).length = n + 1 := by
  have e1 : (l.take j ++ [e] ++ l.drop j).length = j + 1 + (n - j) := by simp [hn]; omega
  have e2 : (l.take j ++ [e] ++ l.drop j).flatMap qcells = (l.flatMap qcells).take (j * 5) ++ qcells e ++ (l.flatMap qcells).drop (j * 5) := by
    rw [List.flatMap_append, List.flatMap_append, flat_take (enc := qcells) (k := 5) (fun _ => rfl), flat_drop (enc := qcells) (k := 5) (fun _ => rfl)]
    simp
  rw [e1, e2]
  exact ⟨h, by omega⟩
theorem qcut_all {w6 : World} {base : Nat} {l : List QRow} {v6 : Value} (e : QRow) (h : w6.ownsRow base 135 5 v6 (l.length + 1 + 0) ((l.flatMap qcells).take (l.length * 5) ++ qcells e ++ [])) :
    w6.ownsRow base 135 5 v6 (l.take l.length ++ [e] ++ l.drop l.length).length ((l.take l.length ++ [e] ++ l.drop l.length).flatMap qcells) ∧ (l.take l.length ++ [e] ++ l.drop l.length).length = l.length + 1 := by
  refine qcut e ?_ rfl (Nat.le_refl _)
  rw [Nat.sub_self, flat_drop (enc := qcells) (k := 5) (fun _ => rfl), List.drop_length]
  exact h
theorem qadd_done {w w3 w6 : World} {q : Nat} {v v0 v6 : Value} {l l' : List QRow} {x : Int} (hql : q < w.heap.size) (hQ3 : QAt w3 q v0 l) (hF3 : Fr [] w w3)
    (hown : w6.ownsRow w3.heap.size 135 5 v6 l'.length (l'.flatMap qcells)) (hlen : l'.length ≤ 16) (hF6 : Fr [] w3 w6) : QPost w q v (.returned (.int .i64 x)) (w6.setCell ⟨q, 1, none⟩ v6) := by
  obtain ⟨a, _, ht⟩ := hQ3.tab
  have hs3 := hF3.size
  refine ⟨⟨x, rfl⟩, v6, l', ⟨⟨a, rfl, by rw [heap_set (hF6.keep ht (by simp))]; rfl⟩, ?_, hlen⟩, ?_, ?_⟩
  · exact own_lower (own_fr hown ((Fr.refl [q] w6).set _ _ (.inl (by simp))) (by simp; omega)) (by omega)
  · intro k hk
    rcases List.mem_cons.1 hk with rfl | hk
    · exact .inl (by simp [qown])
    · exact .inr (Nat.le_trans hs3 (own_base hown k (by simpa using hk)))
  · exact ((hF3.trans hF6 (by simp)).mono (by simp)).set _ _ (.inl (by simp))

set_option maxRecDepth 100000 in
set_option maxHeartbeats 8000000 in
theorem qadd_any {w : World} {q : Nat} {v : Value} {l : List QRow} (h : QAt w q v l) (id addr c : Int) :
    Calls Tryz.prog 28 #[.pointer (some ⟨q, 0, none⟩), .agg #[.int .i64 id, .int .u32 addr, .int .i64 c]] w (QPost w q v) := by
  obtain ⟨i0, hii, hz0, hz1, hz2⟩ := info_parts info_qrow
  have HI := Lib.hid (And.intro hii (And.intro hz0 (And.intro hz1 hz2)))
  clear hii hz0 hz1 hz2
  have hql := h.lt q (by simp [qown])
  have same : ∀ (e : Int) W, Fr [] w W → QPost w q v (.returned (.int .i64 e)) W := fun e W hW => ⟨⟨_, rfl⟩, v, l, h.fr hW (by simp), fun k hk => .inl hk, hW.mono (by simp)⟩
  have SAME := Lib.hid same
  clear same
  have hfind := fun o => qfind_any (h.fr ((Fr.refl [] w).alloc o) (by simp)) id
  have H := Lib.hid (And.intro h hfind)
  clear h hfind
  by_cases a1 : id < 0
  · go_enter Tryz.func28, Tryz.ntmps28
    go_wp2
    go_returns
    exact SAME.out _ _ (by (repeat (first | (with_reducible exact Fr.refl _ _) | (with_reducible assumption) | (with_reducible refine Fr.drew ?_) | (with_reducible refine Fr.drewN ?_ _) | (with_reducible refine Fr.alloc ?_ _) | (with_reducible refine Fr.mput ?_ _ _ _ (.inl (by simp))) | (with_reducible refine Fr.mdel ?_ _ _ (.inl (by simp))) | (with_reducible refine Fr.set ?_ _ _ (.inr (by first | omega | (dsimp only; omega)))) | (with_reducible refine Fr.set ?_ _ _ (.inl (by simp))))))
  by_cases a2 : 255 < id
  · go_enter Tryz.func28, Tryz.ntmps28
    go_wp2
    go_returns
    exact SAME.out _ _ (by (repeat (first | (with_reducible exact Fr.refl _ _) | (with_reducible assumption) | (with_reducible refine Fr.drew ?_) | (with_reducible refine Fr.drewN ?_ _) | (with_reducible refine Fr.alloc ?_ _) | (with_reducible refine Fr.mput ?_ _ _ _ (.inl (by simp))) | (with_reducible refine Fr.mdel ?_ _ _ (.inl (by simp))) | (with_reducible refine Fr.set ?_ _ _ (.inr (by first | omega | (dsimp only; omega)))) | (with_reducible refine Fr.set ?_ _ _ (.inl (by simp))))))
  by_cases a3 : addr = 0
  · subst a3
    go_enter Tryz.func28, Tryz.ntmps28
    go_wp2
    go_returns
    exact SAME.out _ _ (by (repeat (first | (with_reducible exact Fr.refl _ _) | (with_reducible assumption) | (with_reducible refine Fr.drew ?_) | (with_reducible refine Fr.drewN ?_ _) | (with_reducible refine Fr.alloc ?_ _) | (with_reducible refine Fr.mput ?_ _ _ _ (.inl (by simp))) | (with_reducible refine Fr.mdel ?_ _ _ (.inl (by simp))) | (with_reducible refine Fr.set ?_ _ _ (.inr (by first | omega | (dsimp only; omega)))) | (with_reducible refine Fr.set ?_ _ _ (.inl (by simp))))))
  have a3n : ((addr : Int) == 0) = false := beq_eq_false_iff_ne.2 a3
  by_cases a4 : c < 0
  · go_enter Tryz.func28, Tryz.ntmps28
    go_wp2
    go_returns
    exact SAME.out _ _ (by (repeat (first | (with_reducible exact Fr.refl _ _) | (with_reducible assumption) | (with_reducible refine Fr.drew ?_) | (with_reducible refine Fr.drewN ?_ _) | (with_reducible refine Fr.alloc ?_ _) | (with_reducible refine Fr.mput ?_ _ _ _ (.inl (by simp))) | (with_reducible refine Fr.mdel ?_ _ _ (.inl (by simp))) | (with_reducible refine Fr.set ?_ _ _ (.inr (by first | omega | (dsimp only; omega)))) | (with_reducible refine Fr.set ?_ _ _ (.inl (by simp))))))
  by_cases a5 : 100 < c
  · go_enter Tryz.func28, Tryz.ntmps28
    go_wp2
    go_returns
    exact SAME.out _ _ (by (repeat (first | (with_reducible exact Fr.refl _ _) | (with_reducible assumption) | (with_reducible refine Fr.drew ?_) | (with_reducible refine Fr.drewN ?_ _) | (with_reducible refine Fr.alloc ?_ _) | (with_reducible refine Fr.mput ?_ _ _ _ (.inl (by simp))) | (with_reducible refine Fr.mdel ?_ _ _ (.inl (by simp))) | (with_reducible refine Fr.set ?_ _ _ (.inr (by first | omega | (dsimp only; omega)))) | (with_reducible refine Fr.set ?_ _ _ (.inl (by simp))))))
  go_enter Tryz.func28, Tryz.ntmps28
  go_wp2_with fail
  refine (H.out.2 _).mono ?_
  rintro en w1 ⟨r, rfl, hr0, hr1, hfr⟩
  have hF1 : Fr [] w w1 := Fr.trans (S := []) (a := w) (by (repeat (first | (with_reducible exact Fr.refl _ _) | (with_reducible assumption) | (with_reducible refine Fr.drew ?_) | (with_reducible refine Fr.drewN ?_ _) | (with_reducible refine Fr.alloc ?_ _) | (with_reducible refine Fr.mput ?_ _ _ _ (.inl (by simp))) | (with_reducible refine Fr.mdel ?_ _ _ (.inl (by simp))) | (with_reducible refine Fr.set ?_ _ _ (.inr (by first | omega | (dsimp only; omega)))) | (with_reducible refine Fr.set ?_ _ _ (.inl (by simp)))))) hfr (by simp)
  have hbox := hfr.keep (k := w.heap.size) (o := .cells #[.int .i64 id, .int .u32 addr, .int .i64 c] 56 (0, 0)) (heap_new w _) (by simp)
  have hQ1 := H.out.1.fr hF1 (by simp)
  by_cases hr : 0 ≤ r
  · have HX := Lib.hid hF1
    clear hF1 hbox hQ1 hfr
    go_wp2
    go_returns
    exact SAME.out _ _ (by have hF1 := HX.out; (repeat (first | (with_reducible exact Fr.refl _ _) | (with_reducible assumption) | (with_reducible refine Fr.drew ?_) | (with_reducible refine Fr.drewN ?_ _) | (with_reducible refine Fr.alloc ?_ _) | (with_reducible refine Fr.mput ?_ _ _ _ (.inl (by simp))) | (with_reducible refine Fr.mdel ?_ _ _ (.inl (by simp))) | (with_reducible refine Fr.set ?_ _ _ (.inr (by first | omega | (dsimp only; omega)))) | (with_reducible refine Fr.set ?_ _ _ (.inl (by simp))))))
  · have hr' : r < 0 := by omega
    obtain ⟨ad, cp, rfl, hnc⟩ := own_form' hQ1.row
    obtain ⟨n, hn⟩ : ∃ n, l.length = n := ⟨_, rfl⟩
    obtain ⟨a, _, ht1⟩ := hQ1.tab
    rw [hn] at ht1 hnc
    have t1 := cell_at ht1 1 (v := .slice ad n cp) rfl
    have lq1 := lt_of ht1
    have X := Lib.hid (And.intro hF1 (And.intro hbox (And.intro hQ1 (And.intro hn (And.intro hnc ht1)))))
    clear hF1 hbox hQ1 hfr hn hnc ht1
    by_cases hfull : 16 ≤ n
    · go_wp2
      go_returns
      exact SAME.out _ _ (by have hF1 := X.out.1; (repeat (first | (with_reducible exact Fr.refl _ _) | (with_reducible assumption) | (with_reducible refine Fr.drew ?_) | (with_reducible refine Fr.drewN ?_ _) | (with_reducible refine Fr.alloc ?_ _) | (with_reducible refine Fr.mput ?_ _ _ _ (.inl (by simp))) | (with_reducible refine Fr.mdel ?_ _ _ (.inl (by simp))) | (with_reducible refine Fr.set ?_ _ _ (.inr (by first | omega | (dsimp only; omega)))) | (with_reducible refine Fr.set ?_ _ _ (.inl (by simp))))))
    · go_wp2
      go_loopw [5] (fun i wr => QRel w1 n i wr) (fun i _ => n - (intOf i).toNat)
      case atStart => exact ⟨0, Nat.zero_le _, rfl, Fr.refl _ _⟩
      case round =>
        obtain ⟨j, hj, rfl, hfr⟩ := hrel
        obtain ⟨hF1, hbox, hQ1, hn, hnc, ht1⟩ := X.out
        have hqs : q < wr.heap.size := Nat.lt_of_lt_of_le lq1 hfr.size
        have c3 := (hfr.cell (a := ⟨q, 1, none⟩) lq1 (by simp)).trans t1
        obtain ⟨b0, b1, b2⟩ := q_three (hfr.keep hbox (by simp))
        have lb := lt_of (hfr.keep hbox (by simp))
        by_cases hlt : j < n
        · obtain ⟨g, hgs, hgb, hgl, hcell⟩ : ∃ g, ad = some ⟨g, 0, none⟩ ∧ q + 1 ≤ g ∧ g < w1.heap.size ∧ ∀ (i : Nat) (x : Value), (l.flatMap qcells)[i]? = some x → w1.cell? ⟨g, i, none⟩ = some x := by
            obtain ⟨ad', cp', h0, _, h2⟩ := own_form hQ1.row
            cases h0
            exact h2 (by omega)
          subst hgs
          obtain ⟨e, he⟩ : ∃ e, l[j]? = some e := ⟨l[j], List.getElem?_eq_getElem (by omega)⟩
          have k0 : wr.cell? ⟨g, j * 5, none⟩ = some (.int .i64 e.id) := (hfr.cell (a := ⟨g, j * 5 + 0, none⟩) hgl (by simp)).trans (hcell _ _ (flat_at (k := 5) (enc := qcells) (fun _ => rfl) he rfl))
          have j0 : (0 : Int) ≤ j := by omega
          have j1 : (j : Int) < n := by omega
          have j2 : (j : Int) ≤ n := by omega
          have hcp : n ≤ cp := by omega
          have j3 : (j : Int) ≤ cp := by omega
          have j5 : (n : Int) ≤ cp := by omega
          have hg3 : g < wr.heap.size := Nat.lt_of_lt_of_le hgl hfr.size
          have HX := Lib.hid hfr
          clear hcell he hF1 hbox hQ1 hn hnc ht1 hfr
          by_cases hid : e.id < id
          · go_wp2
            go_quiet (fail)
            go_wp2
            refine ⟨⟨j + 1, ?_, ?_, ?_⟩, ?_⟩
            · omega
            · go_num
            · have hfr := HX.out
              (repeat (first | (with_reducible exact Fr.refl _ _) | (with_reducible assumption) | (with_reducible refine Fr.drew ?_) | (with_reducible refine Fr.drewN ?_ _) | (with_reducible refine Fr.alloc ?_ _) | (with_reducible refine Fr.mput ?_ _ _ _ (.inl (by simp))) | (with_reducible refine Fr.mdel ?_ _ _ (.inl (by simp))) | (with_reducible refine Fr.set ?_ _ _ (.inr (by first | omega | (dsimp only; omega)))) | (with_reducible refine Fr.set ?_ _ _ (.inl (by simp)))))
            · simp [intOf]
              omega
          · have hidn : decide (e.id < id) = false := by simpa using hid
            go_wp2
            go_quiet (fail)
            go_wp2
            obtain ⟨hF1, hbox, hQ1, hn, hnc, ht1⟩ := X.out
            obtain ⟨w3, hw3⟩ : ∃ w3, w3 = wr.drewN nq := ⟨_, rfl⟩
            rw [← hw3]
            have hF13 : Fr [] w1 w3 := by have hfr := HX.out; rw [hw3]; (repeat (first | (with_reducible exact Fr.refl _ _) | (with_reducible assumption) | (with_reducible refine Fr.drew ?_) | (with_reducible refine Fr.drewN ?_ _) | (with_reducible refine Fr.alloc ?_ _) | (with_reducible refine Fr.mput ?_ _ _ _ (.inl (by simp))) | (with_reducible refine Fr.mdel ?_ _ _ (.inl (by simp))) | (with_reducible refine Fr.set ?_ _ _ (.inr (by first | omega | (dsimp only; omega)))) | (with_reducible refine Fr.set ?_ _ _ (.inl (by simp)))))
            obtain ⟨b0, b1, b2⟩ := q_three (hF13.keep hbox (by simp))
            have lb3 := lt_of (hF13.keep hbox (by simp))
            have lq3 : q < w3.heap.size := Nat.lt_of_lt_of_le lq1 hF13.size
            have d3 := (hF13.cell (a := ⟨q, 1, none⟩) lq1 (by simp)).trans t1
            have f3 := (hF13.free (a := ⟨q, 1, none⟩) lq1 (by simp)).trans (free_at ht1 1)
            subst hn
            have T3 := Lib.hid (And.intro (hQ1.fr hF13 (by simp)) (And.intro (hF1.trans hF13 (by simp)) (qcells_one l)))
            clear hF1 hbox hQ1 hnc ht1 hF13 hw3 c3 k0
            refine wp_region_zed (P := Tryz.prog) (fun wz => Fr [] w3 wz) 22 (by kernel_rfl) ?_ (fun hS => ?_)
            · exact (Fr.refl [] _).drew
            refine wpAnyZ_take (i := 0) (oi := { dst := some 66, op := Go.Op.move (Go.Operand.tmp 0), type := 40, pos := "ref.go:63", after := #[], guard := none }) (v := _) rfl (by kernel_rfl) (by kernel_rfl) (by kernel_rfl) (by kernel_rfl) (by kernel_rfl) (fun _ _ _ h => h) (Or.inl ⟨by rfl, by (intro w' hSw; (try dsimp only at hSw); go_simp); (try (with_reducible rfl))⟩) (by assumption) ?_
            simp only [Act.put, List.setIfInBounds_toArray, List.set_cons_zero, List.set_cons_succ]
            refine wpAnyZ_take (i := 2) (oi := { dst := some 68, op := Go.Op.move (Go.Operand.tmp 0), type := 40, pos := "ref.go:63", after := #[], guard := none }) (v := _) rfl (by kernel_rfl) (by kernel_rfl) (by kernel_rfl) (by kernel_rfl) (by kernel_rfl) (fun _ _ _ h => h) (Or.inl ⟨by rfl, by (intro w' hSw; (try dsimp only at hSw); go_simp); (try (with_reducible rfl))⟩) (by assumption) ?_
            simp only [Act.put, List.setIfInBounds_toArray, List.set_cons_zero, List.set_cons_succ]
            refine wpAnyZ_take (i := 3) (oi := { dst := some 69, op := Go.Op.nilCheck (Go.Operand.tmp 68), type := 0, pos := "ref.go:63", after := #[{ on := 2, ground := Go.Ground.data }], guard := none }) (v := _) rfl (by kernel_rfl) (by kernel_rfl) (by kernel_rfl) (by kernel_rfl) (by kernel_rfl) (fun _ _ _ h => h) (Or.inl ⟨by rfl, by (intro w' hSw; (try dsimp only at hSw); go_simp); (try (with_reducible rfl))⟩) (by assumption) ?_
            simp only [Act.put, List.setIfInBounds_toArray, List.set_cons_zero, List.set_cons_succ]
            refine wpAnyZ_take (i := 4) (oi := { dst := some 70, op := Go.Op.fieldAddr 132 (Go.Operand.tmp 69) 1, type := 0, pos := "ref.go:63", after := #[{ on := 3, ground := Go.Ground.data }], guard := none }) (v := _) rfl (by kernel_rfl) (by kernel_rfl) (by kernel_rfl) (by kernel_rfl) (by kernel_rfl) (fun _ _ _ h => h) (Or.inl ⟨by rfl, by (intro w' hSw; (try dsimp only at hSw); go_simp); (try (with_reducible rfl))⟩) (by assumption) ?_
            simp only [Act.put, List.setIfInBounds_toArray, List.set_cons_zero, List.set_cons_succ]
            refine wpAnyZ_take (i := 5) (oi := { dst := some 71, op := Go.Op.load 130 (Go.Operand.tmp 70), type := 130, pos := "ref.go:63", after := #[{ on := 4, ground := Go.Ground.data }], guard := none }) (v := _) rfl (by kernel_rfl) (by kernel_rfl) (by kernel_rfl) (by kernel_rfl) (by kernel_rfl) (fun _ _ _ h => h) (Or.inl ⟨by rfl, by (intro w' hSw; have k0 := (hSw.cell (a := ⟨w.heap.size, 0, none⟩) lb3 (by simp)).trans b0; have k1 := (hSw.cell (a := ⟨w.heap.size, 1, none⟩) lb3 (by simp)).trans b1; have k2 := (hSw.cell (a := ⟨w.heap.size, 2, none⟩) lb3 (by simp)).trans b2; have k5 := (hSw.cell (a := ⟨q, 1, none⟩) lq3 (by simp)).trans d3; (try dsimp only at hSw); go_simp); (try (with_reducible rfl))⟩) (by assumption) ?_
            simp only [Act.put, List.setIfInBounds_toArray, List.set_cons_zero, List.set_cons_succ]
            refine wpAnyZ_take (i := 6) (oi := { dst := some 72, op := Go.Op.move (Go.Operand.tmp 5), type := 3, pos := "ref.go:63", after := #[], guard := none }) (v := _) rfl (by kernel_rfl) (by kernel_rfl) (by kernel_rfl) (by kernel_rfl) (by kernel_rfl) (fun _ _ _ h => h) (Or.inl ⟨by rfl, by (intro w' hSw; (try dsimp only at hSw); go_simp); (try (with_reducible rfl))⟩) (by assumption) ?_
            simp only [Act.put, List.setIfInBounds_toArray, List.set_cons_zero, List.set_cons_succ]
            refine wpAnyZ_take (i := 7) (oi := { dst := some 73, op := Go.Op.slice 130 (Go.Operand.tmp 71) none (some (Go.Operand.tmp 72)) none, type := 130, pos := "ref.go:63", after := #[{ on := 5, ground := Go.Ground.data }, { on := 6, ground := Go.Ground.data }], guard := none }) (v := _) rfl (by kernel_rfl) (by kernel_rfl) (by kernel_rfl) (by kernel_rfl) (by kernel_rfl) (fun _ _ _ h => h) (Or.inl ⟨by rfl, by (intro w' hSw; (try dsimp only at hSw); go_simp); (try (with_reducible rfl))⟩) (by assumption) ?_
            simp only [Act.put, List.setIfInBounds_toArray, List.set_cons_zero, List.set_cons_succ]
            refine wpAnyZ_take (i := 9) (oi := { dst := some 75, op := Go.Op.load 56 (Go.Operand.tmp 3), type := 56, pos := "ref.go:63", after := #[], guard := none }) (v := _) rfl (by kernel_rfl) (by kernel_rfl) (by kernel_rfl) (by kernel_rfl) (by kernel_rfl) (fun _ _ _ h => h) (Or.inl ⟨by rfl, by (intro w' hSw; have k0 := (hSw.cell (a := ⟨w.heap.size, 0, none⟩) lb3 (by simp)).trans b0; have k1 := (hSw.cell (a := ⟨w.heap.size, 1, none⟩) lb3 (by simp)).trans b1; have k2 := (hSw.cell (a := ⟨w.heap.size, 2, none⟩) lb3 (by simp)).trans b2; have k5 := (hSw.cell (a := ⟨q, 1, none⟩) lq3 (by simp)).trans d3; (try dsimp only at hSw); go_simp); (try (with_reducible rfl))⟩) (by assumption) ?_
            simp only [Act.put, List.setIfInBounds_toArray, List.set_cons_zero, List.set_cons_succ]
            refine wpAnyZ_take (i := 10) (oi := { dst := some 76, op := Go.Op.build 135 #[(0, Go.Operand.tmp 75)], type := 135, pos := "ref.go:63", after := #[{ on := 9, ground := Go.Ground.data }], guard := none }) (v := _) rfl (by kernel_rfl) (by kernel_rfl) (by kernel_rfl) (by kernel_rfl) (by kernel_rfl) (fun _ _ _ h => h) (Or.inl ⟨by rfl, by (intro w' hSw; (try dsimp only at hSw); go_simp); (try (with_reducible rfl))⟩) (by assumption) ?_
            simp only [Act.put, List.setIfInBounds_toArray, List.set_cons_zero, List.set_cons_succ]
            refine wpAnyZ_take (i := 13) (oi := { dst := some 79, op := Go.Op.move (Go.Operand.tmp 0), type := 40, pos := "ref.go:63", after := #[], guard := none }) (v := _) rfl (by kernel_rfl) (by kernel_rfl) (by kernel_rfl) (by kernel_rfl) (by kernel_rfl) (fun _ _ _ h => h) (Or.inl ⟨by rfl, by (intro w' hSw; (try dsimp only at hSw); go_simp); (try (with_reducible rfl))⟩) (by assumption) ?_
            simp only [Act.put, List.setIfInBounds_toArray, List.set_cons_zero, List.set_cons_succ]
            refine wpAnyZ_take (i := 14) (oi := { dst := some 80, op := Go.Op.nilCheck (Go.Operand.tmp 79), type := 0, pos := "ref.go:63", after := #[{ on := 13, ground := Go.Ground.data }], guard := none }) (v := _) rfl (by kernel_rfl) (by kernel_rfl) (by kernel_rfl) (by kernel_rfl) (by kernel_rfl) (fun _ _ _ h => h) (Or.inl ⟨by rfl, by (intro w' hSw; (try dsimp only at hSw); go_simp); (try (with_reducible rfl))⟩) (by assumption) ?_
            simp only [Act.put, List.setIfInBounds_toArray, List.set_cons_zero, List.set_cons_succ]
            refine wpAnyZ_take (i := 15) (oi := { dst := some 81, op := Go.Op.fieldAddr 132 (Go.Operand.tmp 80) 1, type := 0, pos := "ref.go:63", after := #[{ on := 14, ground := Go.Ground.data }], guard := none }) (v := _) rfl (by kernel_rfl) (by kernel_rfl) (by kernel_rfl) (by kernel_rfl) (by kernel_rfl) (fun _ _ _ h => h) (Or.inl ⟨by rfl, by (intro w' hSw; (try dsimp only at hSw); go_simp); (try (with_reducible rfl))⟩) (by assumption) ?_
            simp only [Act.put, List.setIfInBounds_toArray, List.set_cons_zero, List.set_cons_succ]
            refine wpAnyZ_take (i := 16) (oi := { dst := some 82, op := Go.Op.load 130 (Go.Operand.tmp 81), type := 130, pos := "ref.go:63", after := #[{ on := 15, ground := Go.Ground.data }], guard := none }) (v := _) rfl (by kernel_rfl) (by kernel_rfl) (by kernel_rfl) (by kernel_rfl) (by kernel_rfl) (fun _ _ _ h => h) (Or.inl ⟨by rfl, by (intro w' hSw; have k0 := (hSw.cell (a := ⟨w.heap.size, 0, none⟩) lb3 (by simp)).trans b0; have k1 := (hSw.cell (a := ⟨w.heap.size, 1, none⟩) lb3 (by simp)).trans b1; have k2 := (hSw.cell (a := ⟨w.heap.size, 2, none⟩) lb3 (by simp)).trans b2; have k5 := (hSw.cell (a := ⟨q, 1, none⟩) lq3 (by simp)).trans d3; (try dsimp only at hSw); go_simp); (try (with_reducible rfl))⟩) (by assumption) ?_
            simp only [Act.put, List.setIfInBounds_toArray, List.set_cons_zero, List.set_cons_succ]
            refine wpAnyZ_take (i := 17) (oi := { dst := some 83, op := Go.Op.move (Go.Operand.tmp 5), type := 3, pos := "ref.go:63", after := #[], guard := none }) (v := _) rfl (by kernel_rfl) (by kernel_rfl) (by kernel_rfl) (by kernel_rfl) (by kernel_rfl) (fun _ _ _ h => h) (Or.inl ⟨by rfl, by (intro w' hSw; (try dsimp only at hSw); go_simp); (try (with_reducible rfl))⟩) (by assumption) ?_
            simp only [Act.put, List.setIfInBounds_toArray, List.set_cons_zero, List.set_cons_succ]
            refine wpAnyZ_take (i := 18) (oi := { dst := some 84, op := Go.Op.slice 130 (Go.Operand.tmp 82) (some (Go.Operand.tmp 83)) none none, type := 130, pos := "ref.go:63", after := #[{ on := 16, ground := Go.Ground.data }, { on := 17, ground := Go.Ground.data }], guard := none }) (v := _) rfl (by kernel_rfl) (by kernel_rfl) (by kernel_rfl) (by kernel_rfl) (by kernel_rfl) (fun _ _ _ h => h) (Or.inl ⟨by rfl, by (intro w' hSw; (try dsimp only at hSw); go_simp); (try (with_reducible rfl))⟩) (by assumption) ?_
            simp only [Act.put, List.setIfInBounds_toArray, List.set_cons_zero, List.set_cons_succ]
            refine wpAnyZ_ready (rs := [1, 11]) (by kernel_rfl) (by simp) ?_
            refine ZedOne.cons (o := { dst := some 67, op := Go.Op.buildSlice 130 0 #[], type := 130, pos := "ref.go:63", after := #[], guard := none }) rfl (fun K hK => ?_) ?_
            go_simp
            refine hK.out _ _ ?_ (fun hSn => ?_)
            · (try dsimp only at hS ⊢); (repeat (first | (with_reducible exact Fr.refl _ _) | (with_reducible assumption) | (with_reducible refine Fr.drew ?_) | (with_reducible refine Fr.drewN ?_ _) | (with_reducible refine Fr.alloc ?_ _) | (with_reducible refine Fr.mput ?_ _ _ _ (.inl (by simp))) | (with_reducible refine Fr.mdel ?_ _ _ (.inl (by simp))) | (with_reducible refine Fr.set ?_ _ _ (.inr (by first | omega | (dsimp only; omega)))) | (with_reducible refine Fr.set ?_ _ _ (.inl (by simp)))))
            clear hK K hS
            have hS := hSn
            clear hSn
            (try simp only [Act.put, List.setIfInBounds_toArray, List.set_cons_zero, List.set_cons_succ])
            refine wpAnyZ_ready (rs := [8, 11]) (by kernel_rfl) (by simp) ?_
            refine ZedOne.cons (o := { dst := some 74, op := Go.Op.call { callee := Go.Callee.builtin Go.Builtin.append, args := #[Go.Operand.tmp 67, Go.Operand.tmp 73], argTypes := #[130, 130] }, type := 130, pos := "ref.go:63", after := #[{ on := 1, ground := Go.Ground.data }, { on := 7, ground := Go.Ground.data }], guard := none }) rfl (fun K hK => ?_) ?_
            refine step_append_src rfl (.tmp 67) (.tmp 73) 130 rfl w3.heap.size 135 i0 (.agg #[.int .i64 0, .int .u32 0, .int .i64 0, .bool false, .bool false]) 5 32 Tryz.underlying130 HI.out.1 HI.out.2.1 HI.out.2.2.1 HI.out.2.2.2 rfl (by decide) _ 0 [] (by rfl) (own_empty (by first | exact heap_new _ _ | exact (by (try simp only [heap_drewN, heap_drew, heap_alloc_if, World.size_alloc, World.size_setCell, size_mput, size_mdel]); (first | (simp; done) | (simp [zeroEntry]; done) | (simp; omega) | (simp [zeroEntry]; omega)))) (by first | (simp; done) | (simp; omega))) j ((l.flatMap qcells).take (j * 5)) (.slice (some ⟨g, 0, none⟩) j cp) rfl (src_take (S := []) T3.out.1.row hS (by simp) hj (by simp)) (fun x hx => T3.out.2.2 x (by exact List.mem_of_mem_take hx)) (by unfold maxLen; omega) (by omega) (by first | (simp; done) | (simp; omega)) ?_
            intro v4 w4 hown4 hg4
            simp only [Nat.zero_add, List.nil_append] at hown4
            have HP1 := Lib.hid (And.intro hown4 (And.intro (Fr.grown (S := []) (a := w3) (by (repeat (first | (with_reducible exact Fr.refl _ _) | (with_reducible assumption) | (with_reducible refine Fr.drew ?_) | (with_reducible refine Fr.drewN ?_ _) | (with_reducible refine Fr.alloc ?_ _) | (with_reducible refine Fr.mput ?_ _ _ _ (.inl (by simp))) | (with_reducible refine Fr.mdel ?_ _ _ (.inl (by simp))) | (with_reducible refine Fr.set ?_ _ _ (.inr (by first | omega | (dsimp only; omega)))) | (with_reducible refine Fr.set ?_ _ _ (.inl (by simp)))))) hg4 (fun k hk => .inr (by simp [Value.ownBlock] at hk; omega))) (fun (B : Nat) (o : Obj) (h : _ = some o) (hne : _) => (hg4.block B (lt_of h) hne).trans h)))
            clear hown4 hg4
            refine hK.out _ _ ?_ (fun hSn => ?_)
            · exact HP1.out.2.1
            clear hK K hS
            have hS := hSn
            clear hSn
            (try simp only [Act.put, List.setIfInBounds_toArray, List.set_cons_zero, List.set_cons_succ])
            refine wpAnyZ_ready (rs := [11]) (by kernel_rfl) (by simp) ?_
            refine ZedOne.cons (o := { dst := some 77, op := Go.Op.buildSlice 130 1 #[(0, Go.Operand.tmp 76)], type := 130, pos := "ref.go:63", after := #[{ on := 10, ground := Go.Ground.data }], guard := none }) rfl (fun K hK => ?_) ?_
            go_simp
            refine hK.out _ _ ?_ (fun hSn => ?_)
            · (try dsimp only at hS ⊢); (repeat (first | (with_reducible exact Fr.refl _ _) | (with_reducible assumption) | (with_reducible refine Fr.drew ?_) | (with_reducible refine Fr.drewN ?_ _) | (with_reducible refine Fr.alloc ?_ _) | (with_reducible refine Fr.mput ?_ _ _ _ (.inl (by simp))) | (with_reducible refine Fr.mdel ?_ _ _ (.inl (by simp))) | (with_reducible refine Fr.set ?_ _ _ (.inr (by first | omega | (dsimp only; omega)))) | (with_reducible refine Fr.set ?_ _ _ (.inl (by simp)))))
            clear hK K hS
            have hS := hSn
            clear hSn
            (try simp only [Act.put, List.setIfInBounds_toArray, List.set_cons_zero, List.set_cons_succ])
            refine wpAnyZ_ready (rs := [12]) (by kernel_rfl) (by simp) ?_
            refine ZedOne.cons (o := { dst := some 78, op := Go.Op.call { callee := Go.Callee.builtin Go.Builtin.append, args := #[Go.Operand.tmp 74, Go.Operand.tmp 77], argTypes := #[130, 130] }, type := 130, pos := "ref.go:63", after := #[{ on := 8, ground := Go.Ground.data }, { on := 11, ground := Go.Ground.data }, { on := 8, ground := Go.Ground.chain }], guard := none }) rfl (fun K hK => ?_) ?_
            refine step_append_src rfl (.tmp 74) (.tmp 77) 130 rfl w3.heap.size 135 i0 (.agg #[.int .i64 0, .int .u32 0, .int .i64 0, .bool false, .bool false]) 5 32 Tryz.underlying130 HI.out.1 HI.out.2.1 HI.out.2.2.1 HI.out.2.2.2 rfl (by decide) v4 j _ rfl (own_fr (S := []) (w := w4) HP1.out.1 (by (repeat (first | (with_reducible exact Fr.refl _ _) | (with_reducible assumption) | (with_reducible refine Fr.drew ?_) | (with_reducible refine Fr.drewN ?_ _) | (with_reducible refine Fr.alloc ?_ _) | (with_reducible refine Fr.mput ?_ _ _ _ (.inl (by simp))) | (with_reducible refine Fr.mdel ?_ _ _ (.inl (by simp))) | (with_reducible refine Fr.set ?_ _ _ (.inr (by first | omega | (dsimp only; omega)))) | (with_reducible refine Fr.set ?_ _ _ (.inl (by simp)))))) (by simp)) 1 [.int .i64 id, .int .u32 addr, .int .i64 c, .bool false, .bool false] _ rfl (src_one (e := 135) (by first | exact heap_new _ _ | exact HP1.out.2.2 _ _ (by first | exact heap_new _ _ | exact (by (try simp only [heap_drewN, heap_drew, heap_alloc_if, World.size_alloc, World.size_setCell, size_mput, size_mdel]); (first | (simp; done) | (simp [zeroEntry]; done) | (simp; omega) | (simp [zeroEntry]; omega)))) (by simp [Value.ownBlock])) rfl) (by intro z hz; simp at hz; rcases hz with rfl | rfl | rfl | rfl | rfl <;> rfl) (by unfold maxLen; omega) (by omega) (Nat.le_trans HP1.out.2.1.size (by simp)) ?_
            intro v5 w5 hown5 hg5
            have HP2 := Lib.hid (And.intro hown5 (Fr.grown (S := []) (a := w3) (by (repeat (first | (with_reducible exact Fr.refl _ _) | (with_reducible assumption) | (with_reducible refine Fr.drew ?_) | (with_reducible refine Fr.drewN ?_ _) | (with_reducible refine Fr.alloc ?_ _) | (with_reducible refine Fr.mput ?_ _ _ _ (.inl (by simp))) | (with_reducible refine Fr.mdel ?_ _ _ (.inl (by simp))) | (with_reducible refine Fr.set ?_ _ _ (.inr (by first | omega | (dsimp only; omega)))) | (with_reducible refine Fr.set ?_ _ _ (.inl (by simp)))))) hg5 (fun k hk => .inr (own_base HP1.out.1 k hk))))
            clear hown5 hg5
            refine hK.out _ _ ?_ (fun hSn => ?_)
            · exact HP2.out.2
            clear hK K hS
            have hS := hSn
            clear hSn
            (try simp only [Act.put, List.setIfInBounds_toArray, List.set_cons_zero, List.set_cons_succ])
            refine wpAnyZ_ready (rs := [19]) (by kernel_rfl) (by simp) ?_
            refine ZedOne.cons (o := { dst := some 85, op := Go.Op.call { callee := Go.Callee.builtin Go.Builtin.append, args := #[Go.Operand.tmp 78, Go.Operand.tmp 84], argTypes := #[130, 130] }, type := 130, pos := "ref.go:63", after := #[{ on := 12, ground := Go.Ground.data }, { on := 18, ground := Go.Ground.data }, { on := 12, ground := Go.Ground.chain }], guard := none }) rfl (fun K hK => ?_) ?_
            refine step_append_src rfl (.tmp 78) (.tmp 84) 130 rfl w3.heap.size 135 i0 (.agg #[.int .i64 0, .int .u32 0, .int .i64 0, .bool false, .bool false]) 5 32 Tryz.underlying130 HI.out.1 HI.out.2.1 HI.out.2.2.1 HI.out.2.2.2 rfl (by decide) v5 (j + 1) _ rfl HP2.out.1 (l.length - j) ((l.flatMap qcells).drop (j * 5)) (.slice (if cp = j then some ⟨g, 0, none⟩ else some ⟨g, j * 5, none⟩) (l.length - j) (cp - j)) rfl (src_drop_if (S := []) T3.out.1.row hS (by simp) hj) (fun x hx => T3.out.2.2 x (by exact List.mem_of_mem_drop hx)) (by unfold maxLen; omega) (by omega) HP2.out.2.size ?_
            intro v6 w6 hown6 hg6
            obtain ⟨ad6, cp6, rfl, hnc6⟩ := own_form' hown6
            clear hnc6
            have HP3 := Lib.hid (And.intro hown6 (Fr.grown (S := []) (a := w3) (by (repeat (first | (with_reducible exact Fr.refl _ _) | (with_reducible assumption) | (with_reducible refine Fr.drew ?_) | (with_reducible refine Fr.drewN ?_ _) | (with_reducible refine Fr.alloc ?_ _) | (with_reducible refine Fr.mput ?_ _ _ _ (.inl (by simp))) | (with_reducible refine Fr.mdel ?_ _ _ (.inl (by simp))) | (with_reducible refine Fr.set ?_ _ _ (.inr (by first | omega | (dsimp only; omega)))) | (with_reducible refine Fr.set ?_ _ _ (.inl (by simp)))))) hg6 (fun k hk => .inr (own_base HP2.out.1 k hk))))
            clear hown6 hg6
            refine hK.out _ _ ?_ (fun hSn => ?_)
            · exact HP3.out.2
            clear hK K hS
            have hS := hSn
            clear hSn
            (try simp only [Act.put, List.setIfInBounds_toArray, List.set_cons_zero, List.set_cons_succ])
            refine wpAnyZ_take (i := 20) (oi := { dst := some 86, op := Go.Op.nilCheck (Go.Operand.tmp 66), type := 0, pos := "ref.go:63", after := #[{ on := 0, ground := Go.Ground.data }, { on := 0, ground := Go.Ground.phase }, { on := 1, ground := Go.Ground.phase }, { on := 2, ground := Go.Ground.phase }, { on := 3, ground := Go.Ground.phase }, { on := 4, ground := Go.Ground.phase }, { on := 5, ground := Go.Ground.phase }, { on := 6, ground := Go.Ground.phase }, { on := 7, ground := Go.Ground.phase }, { on := 8, ground := Go.Ground.phase }, { on := 9, ground := Go.Ground.phase }, { on := 10, ground := Go.Ground.phase }, { on := 11, ground := Go.Ground.phase }, { on := 12, ground := Go.Ground.phase }, { on := 13, ground := Go.Ground.phase }, { on := 14, ground := Go.Ground.phase }, { on := 15, ground := Go.Ground.phase }, { on := 16, ground := Go.Ground.phase }, { on := 17, ground := Go.Ground.phase }, { on := 18, ground := Go.Ground.phase }, { on := 19, ground := Go.Ground.phase }], guard := none }) (v := _) rfl (by kernel_rfl) (by kernel_rfl) (by kernel_rfl) (by kernel_rfl) (by kernel_rfl) (fun _ _ _ h => h) (Or.inl ⟨by rfl, by (intro w' hSw; (try dsimp only at hSw); go_simp); (try (with_reducible rfl))⟩) (by assumption) ?_
            simp only [Act.put, List.setIfInBounds_toArray, List.set_cons_zero, List.set_cons_succ]
            refine wpAnyZ_take (i := 21) (oi := { dst := some 87, op := Go.Op.fieldAddr 132 (Go.Operand.tmp 86) 1, type := 0, pos := "ref.go:63", after := #[{ on := 20, ground := Go.Ground.data }, { on := 0, ground := Go.Ground.phase }, { on := 1, ground := Go.Ground.phase }, { on := 2, ground := Go.Ground.phase }, { on := 3, ground := Go.Ground.phase }, { on := 4, ground := Go.Ground.phase }, { on := 5, ground := Go.Ground.phase }, { on := 6, ground := Go.Ground.phase }, { on := 7, ground := Go.Ground.phase }, { on := 8, ground := Go.Ground.phase }, { on := 9, ground := Go.Ground.phase }, { on := 10, ground := Go.Ground.phase }, { on := 11, ground := Go.Ground.phase }, { on := 12, ground := Go.Ground.phase }, { on := 13, ground := Go.Ground.phase }, { on := 14, ground := Go.Ground.phase }, { on := 15, ground := Go.Ground.phase }, { on := 16, ground := Go.Ground.phase }, { on := 17, ground := Go.Ground.phase }, { on := 18, ground := Go.Ground.phase }, { on := 19, ground := Go.Ground.phase }], guard := none }) (v := _) rfl (by kernel_rfl) (by kernel_rfl) (by kernel_rfl) (by kernel_rfl) (by kernel_rfl) (fun _ _ _ h => h) (Or.inl ⟨by rfl, by (intro w' hSw; (try dsimp only at hSw); go_simp); (try (with_reducible rfl))⟩) (by assumption) ?_
            simp only [Act.put, List.setIfInBounds_toArray, List.set_cons_zero, List.set_cons_succ]
            refine wpAnyZ_ready (rs := [22]) (by kernel_rfl) (by simp) ?_
            refine ZedOne.last (o := { dst := none, op := Go.Op.store 130 (Go.Operand.tmp 87) (Go.Operand.tmp 85), type := 0, pos := "ref.go:63", after := #[{ on := 21, ground := Go.Ground.data }, { on := 19, ground := Go.Ground.data }, { on := 19, ground := Go.Ground.chain }, { on := 0, ground := Go.Ground.phase }, { on := 1, ground := Go.Ground.phase }, { on := 2, ground := Go.Ground.phase }, { on := 3, ground := Go.Ground.phase }, { on := 4, ground := Go.Ground.phase }, { on := 5, ground := Go.Ground.phase }, { on := 6, ground := Go.Ground.phase }, { on := 7, ground := Go.Ground.phase }, { on := 8, ground := Go.Ground.phase }, { on := 9, ground := Go.Ground.phase }, { on := 10, ground := Go.Ground.phase }, { on := 11, ground := Go.Ground.phase }, { on := 12, ground := Go.Ground.phase }, { on := 13, ground := Go.Ground.phase }, { on := 14, ground := Go.Ground.phase }, { on := 15, ground := Go.Ground.phase }, { on := 16, ground := Go.Ground.phase }, { on := 17, ground := Go.Ground.phase }, { on := 18, ground := Go.Ground.phase }, { on := 19, ground := Go.Ground.phase }], guard := none }) rfl (fun K hK => ?_)
            have u5 := (hS.cell (a := ⟨q, 1, none⟩) lq3 (by simp)).trans d3
            have u6 := (hS.free (a := ⟨q, 1, none⟩) lq3 (by simp)).trans f3
            go_simp
            refine hK.out _ _ ?_
            clear hK K hS
            (try simp only [Act.put, List.setIfInBounds_toArray, List.set_cons_zero, List.set_cons_succ])
            refine wpAnyZ_done (by kernel_rfl) ?_ _
            rotate_left 1
            exact ZedOne.nil
            exact ZedOne.nil
            exact ZedOne.nil
            refine ZedOne.cons (o := { dst := some 77, op := Go.Op.buildSlice 130 1 #[(0, Go.Operand.tmp 76)], type := 130, pos := "ref.go:63", after := #[{ on := 10, ground := Go.Ground.data }], guard := none }) rfl (fun K hK => ?_) ?_
            go_simp
            refine hK.out _ _ ?_ (fun hSn => ?_)
            · (try dsimp only at hS ⊢); (repeat (first | (with_reducible exact Fr.refl _ _) | (with_reducible assumption) | (with_reducible refine Fr.drew ?_) | (with_reducible refine Fr.drewN ?_ _) | (with_reducible refine Fr.alloc ?_ _) | (with_reducible refine Fr.mput ?_ _ _ _ (.inl (by simp))) | (with_reducible refine Fr.mdel ?_ _ _ (.inl (by simp))) | (with_reducible refine Fr.set ?_ _ _ (.inr (by first | omega | (dsimp only; omega)))) | (with_reducible refine Fr.set ?_ _ _ (.inl (by simp)))))
            clear hK K hS
            have hS := hSn
            clear hSn
            (try simp only [Act.put, List.setIfInBounds_toArray, List.set_cons_zero, List.set_cons_succ])
            refine wpAnyZ_ready (rs := [8]) (by kernel_rfl) (by simp) ?_
            refine ZedOne.cons (o := { dst := some 74, op := Go.Op.call { callee := Go.Callee.builtin Go.Builtin.append, args := #[Go.Operand.tmp 67, Go.Operand.tmp 73], argTypes := #[130, 130] }, type := 130, pos := "ref.go:63", after := #[{ on := 1, ground := Go.Ground.data }, { on := 7, ground := Go.Ground.data }], guard := none }) rfl (fun K hK => ?_) ?_
            refine step_append_src rfl (.tmp 67) (.tmp 73) 130 rfl w3.heap.size 135 i0 (.agg #[.int .i64 0, .int .u32 0, .int .i64 0, .bool false, .bool false]) 5 32 Tryz.underlying130 HI.out.1 HI.out.2.1 HI.out.2.2.1 HI.out.2.2.2 rfl (by decide) _ 0 [] (by rfl) (own_empty (by first | exact heap_new _ _ | exact (by (try simp only [heap_drewN, heap_drew, heap_alloc_if, World.size_alloc, World.size_setCell, size_mput, size_mdel]); (first | (simp; done) | (simp [zeroEntry]; done) | (simp; omega) | (simp [zeroEntry]; omega)))) (by first | (simp; done) | (simp; omega))) j ((l.flatMap qcells).take (j * 5)) (.slice (some ⟨g, 0, none⟩) j cp) rfl (src_take (S := []) T3.out.1.row hS (by simp) hj (by simp)) (fun x hx => T3.out.2.2 x (by exact List.mem_of_mem_take hx)) (by unfold maxLen; omega) (by omega) (by first | (simp; done) | (simp; omega)) ?_
            intro v4 w4 hown4 hg4
            simp only [Nat.zero_add, List.nil_append] at hown4
            have HP1 := Lib.hid (And.intro hown4 (And.intro (Fr.grown (S := []) (a := w3) (by (repeat (first | (with_reducible exact Fr.refl _ _) | (with_reducible assumption) | (with_reducible refine Fr.drew ?_) | (with_reducible refine Fr.drewN ?_ _) | (with_reducible refine Fr.alloc ?_ _) | (with_reducible refine Fr.mput ?_ _ _ _ (.inl (by simp))) | (with_reducible refine Fr.mdel ?_ _ _ (.inl (by simp))) | (with_reducible refine Fr.set ?_ _ _ (.inr (by first | omega | (dsimp only; omega)))) | (with_reducible refine Fr.set ?_ _ _ (.inl (by simp)))))) hg4 (fun k hk => .inr (by simp [Value.ownBlock] at hk; omega))) (fun (B : Nat) (o : Obj) (h : _ = some o) (hne : _) => (hg4.block B (lt_of h) hne).trans h)))
            clear hown4 hg4
            refine hK.out _ _ ?_ (fun hSn => ?_)
            · exact HP1.out.2.1
            clear hK K hS
            have hS := hSn
            clear hSn
            (try simp only [Act.put, List.setIfInBounds_toArray, List.set_cons_zero, List.set_cons_succ])
            refine wpAnyZ_ready (rs := [12]) (by kernel_rfl) (by simp) ?_
            refine ZedOne.cons (o := { dst := some 78, op := Go.Op.call { callee := Go.Callee.builtin Go.Builtin.append, args := #[Go.Operand.tmp 74, Go.Operand.tmp 77], argTypes := #[130, 130] }, type := 130, pos := "ref.go:63", after := #[{ on := 8, ground := Go.Ground.data }, { on := 11, ground := Go.Ground.data }, { on := 8, ground := Go.Ground.chain }], guard := none }) rfl (fun K hK => ?_) ?_
            refine step_append_src rfl (.tmp 74) (.tmp 77) 130 rfl w3.heap.size 135 i0 (.agg #[.int .i64 0, .int .u32 0, .int .i64 0, .bool false, .bool false]) 5 32 Tryz.underlying130 HI.out.1 HI.out.2.1 HI.out.2.2.1 HI.out.2.2.2 rfl (by decide) v4 j _ rfl (own_fr (S := []) (w := w4) HP1.out.1 (by (repeat (first | (with_reducible exact Fr.refl _ _) | (with_reducible assumption) | (with_reducible refine Fr.drew ?_) | (with_reducible refine Fr.drewN ?_ _) | (with_reducible refine Fr.alloc ?_ _) | (with_reducible refine Fr.mput ?_ _ _ _ (.inl (by simp))) | (with_reducible refine Fr.mdel ?_ _ _ (.inl (by simp))) | (with_reducible refine Fr.set ?_ _ _ (.inr (by first | omega | (dsimp only; omega)))) | (with_reducible refine Fr.set ?_ _ _ (.inl (by simp)))))) (by simp)) 1 [.int .i64 id, .int .u32 addr, .int .i64 c, .bool false, .bool false] _ rfl (src_one (e := 135) (by first | exact heap_new _ _ | exact HP1.out.2.2 _ _ (by first | exact heap_new _ _ | exact (by (try simp only [heap_drewN, heap_drew, heap_alloc_if, World.size_alloc, World.size_setCell, size_mput, size_mdel]); (first | (simp; done) | (simp [zeroEntry]; done) | (simp; omega) | (simp [zeroEntry]; omega)))) (by simp [Value.ownBlock])) rfl) (by intro z hz; simp at hz; rcases hz with rfl | rfl | rfl | rfl | rfl <;> rfl) (by unfold maxLen; omega) (by omega) (Nat.le_trans HP1.out.2.1.size (by simp)) ?_
            intro v5 w5 hown5 hg5
            have HP2 := Lib.hid (And.intro hown5 (Fr.grown (S := []) (a := w3) (by (repeat (first | (with_reducible exact Fr.refl _ _) | (with_reducible assumption) | (with_reducible refine Fr.drew ?_) | (with_reducible refine Fr.drewN ?_ _) | (with_reducible refine Fr.alloc ?_ _) | (with_reducible refine Fr.mput ?_ _ _ _ (.inl (by simp))) | (with_reducible refine Fr.mdel ?_ _ _ (.inl (by simp))) | (with_reducible refine Fr.set ?_ _ _ (.inr (by first | omega | (dsimp only; omega)))) | (with_reducible refine Fr.set ?_ _ _ (.inl (by simp)))))) hg5 (fun k hk => .inr (own_base HP1.out.1 k hk))))
            clear hown5 hg5
            refine hK.out _ _ ?_ (fun hSn => ?_)
            · exact HP2.out.2
            clear hK K hS
            have hS := hSn
            clear hSn
            (try simp only [Act.put, List.setIfInBounds_toArray, List.set_cons_zero, List.set_cons_succ])
            refine wpAnyZ_ready (rs := [19]) (by kernel_rfl) (by simp) ?_
            refine ZedOne.cons (o := { dst := some 85, op := Go.Op.call { callee := Go.Callee.builtin Go.Builtin.append, args := #[Go.Operand.tmp 78, Go.Operand.tmp 84], argTypes := #[130, 130] }, type := 130, pos := "ref.go:63", after := #[{ on := 12, ground := Go.Ground.data }, { on := 18, ground := Go.Ground.data }, { on := 12, ground := Go.Ground.chain }], guard := none }) rfl (fun K hK => ?_) ?_
            refine step_append_src rfl (.tmp 78) (.tmp 84) 130 rfl w3.heap.size 135 i0 (.agg #[.int .i64 0, .int .u32 0, .int .i64 0, .bool false, .bool false]) 5 32 Tryz.underlying130 HI.out.1 HI.out.2.1 HI.out.2.2.1 HI.out.2.2.2 rfl (by decide) v5 (j + 1) _ rfl HP2.out.1 (l.length - j) ((l.flatMap qcells).drop (j * 5)) (.slice (if cp = j then some ⟨g, 0, none⟩ else some ⟨g, j * 5, none⟩) (l.length - j) (cp - j)) rfl (src_drop_if (S := []) T3.out.1.row hS (by simp) hj) (fun x hx => T3.out.2.2 x (by exact List.mem_of_mem_drop hx)) (by unfold maxLen; omega) (by omega) HP2.out.2.size ?_
            intro v6 w6 hown6 hg6
            obtain ⟨ad6, cp6, rfl, hnc6⟩ := own_form' hown6
            clear hnc6
            have HP3 := Lib.hid (And.intro hown6 (Fr.grown (S := []) (a := w3) (by (repeat (first | (with_reducible exact Fr.refl _ _) | (with_reducible assumption) | (with_reducible refine Fr.drew ?_) | (with_reducible refine Fr.drewN ?_ _) | (with_reducible refine Fr.alloc ?_ _) | (with_reducible refine Fr.mput ?_ _ _ _ (.inl (by simp))) | (with_reducible refine Fr.mdel ?_ _ _ (.inl (by simp))) | (with_reducible refine Fr.set ?_ _ _ (.inr (by first | omega | (dsimp only; omega)))) | (with_reducible refine Fr.set ?_ _ _ (.inl (by simp)))))) hg6 (fun k hk => .inr (own_base HP2.out.1 k hk))))
            clear hown6 hg6
            refine hK.out _ _ ?_ (fun hSn => ?_)
            · exact HP3.out.2
            clear hK K hS
            have hS := hSn
            clear hSn
            (try simp only [Act.put, List.setIfInBounds_toArray, List.set_cons_zero, List.set_cons_succ])
            refine wpAnyZ_take (i := 20) (oi := { dst := some 86, op := Go.Op.nilCheck (Go.Operand.tmp 66), type := 0, pos := "ref.go:63", after := #[{ on := 0, ground := Go.Ground.data }, { on := 0, ground := Go.Ground.phase }, { on := 1, ground := Go.Ground.phase }, { on := 2, ground := Go.Ground.phase }, { on := 3, ground := Go.Ground.phase }, { on := 4, ground := Go.Ground.phase }, { on := 5, ground := Go.Ground.phase }, { on := 6, ground := Go.Ground.phase }, { on := 7, ground := Go.Ground.phase }, { on := 8, ground := Go.Ground.phase }, { on := 9, ground := Go.Ground.phase }, { on := 10, ground := Go.Ground.phase }, { on := 11, ground := Go.Ground.phase }, { on := 12, ground := Go.Ground.phase }, { on := 13, ground := Go.Ground.phase }, { on := 14, ground := Go.Ground.phase }, { on := 15, ground := Go.Ground.phase }, { on := 16, ground := Go.Ground.phase }, { on := 17, ground := Go.Ground.phase }, { on := 18, ground := Go.Ground.phase }, { on := 19, ground := Go.Ground.phase }], guard := none }) (v := _) rfl (by kernel_rfl) (by kernel_rfl) (by kernel_rfl) (by kernel_rfl) (by kernel_rfl) (fun _ _ _ h => h) (Or.inl ⟨by rfl, by (intro w' hSw; (try dsimp only at hSw); go_simp); (try (with_reducible rfl))⟩) (by assumption) ?_
            simp only [Act.put, List.setIfInBounds_toArray, List.set_cons_zero, List.set_cons_succ]
            refine wpAnyZ_take (i := 21) (oi := { dst := some 87, op := Go.Op.fieldAddr 132 (Go.Operand.tmp 86) 1, type := 0, pos := "ref.go:63", after := #[{ on := 20, ground := Go.Ground.data }, { on := 0, ground := Go.Ground.phase }, { on := 1, ground := Go.Ground.phase }, { on := 2, ground := Go.Ground.phase }, { on := 3, ground := Go.Ground.phase }, { on := 4, ground := Go.Ground.phase }, { on := 5, ground := Go.Ground.phase }, { on := 6, ground := Go.Ground.phase }, { on := 7, ground := Go.Ground.phase }, { on := 8, ground := Go.Ground.phase }, { on := 9, ground := Go.Ground.phase }, { on := 10, ground := Go.Ground.phase }, { on := 11, ground := Go.Ground.phase }, { on := 12, ground := Go.Ground.phase }, { on := 13, ground := Go.Ground.phase }, { on := 14, ground := Go.Ground.phase }, { on := 15, ground := Go.Ground.phase }, { on := 16, ground := Go.Ground.phase }, { on := 17, ground := Go.Ground.phase }, { on := 18, ground := Go.Ground.phase }, { on := 19, ground := Go.Ground.phase }], guard := none }) (v := _) rfl (by kernel_rfl) (by kernel_rfl) (by kernel_rfl) (by kernel_rfl) (by kernel_rfl) (fun _ _ _ h => h) (Or.inl ⟨by rfl, by (intro w' hSw; (try dsimp only at hSw); go_simp); (try (with_reducible rfl))⟩) (by assumption) ?_
            simp only [Act.put, List.setIfInBounds_toArray, List.set_cons_zero, List.set_cons_succ]
            refine wpAnyZ_ready (rs := [22]) (by kernel_rfl) (by simp) ?_
            refine ZedOne.last (o := { dst := none, op := Go.Op.store 130 (Go.Operand.tmp 87) (Go.Operand.tmp 85), type := 0, pos := "ref.go:63", after := #[{ on := 21, ground := Go.Ground.data }, { on := 19, ground := Go.Ground.data }, { on := 19, ground := Go.Ground.chain }, { on := 0, ground := Go.Ground.phase }, { on := 1, ground := Go.Ground.phase }, { on := 2, ground := Go.Ground.phase }, { on := 3, ground := Go.Ground.phase }, { on := 4, ground := Go.Ground.phase }, { on := 5, ground := Go.Ground.phase }, { on := 6, ground := Go.Ground.phase }, { on := 7, ground := Go.Ground.phase }, { on := 8, ground := Go.Ground.phase }, { on := 9, ground := Go.Ground.phase }, { on := 10, ground := Go.Ground.phase }, { on := 11, ground := Go.Ground.phase }, { on := 12, ground := Go.Ground.phase }, { on := 13, ground := Go.Ground.phase }, { on := 14, ground := Go.Ground.phase }, { on := 15, ground := Go.Ground.phase }, { on := 16, ground := Go.Ground.phase }, { on := 17, ground := Go.Ground.phase }, { on := 18, ground := Go.Ground.phase }, { on := 19, ground := Go.Ground.phase }], guard := none }) rfl (fun K hK => ?_)
            have u5 := (hS.cell (a := ⟨q, 1, none⟩) lq3 (by simp)).trans d3
            have u6 := (hS.free (a := ⟨q, 1, none⟩) lq3 (by simp)).trans f3
            go_simp
            refine hK.out _ _ ?_
            clear hK K hS
            (try simp only [Act.put, List.setIfInBounds_toArray, List.set_cons_zero, List.set_cons_succ])
            refine wpAnyZ_done (by kernel_rfl) ?_ _
            rotate_left 1
            exact ZedOne.nil
            exact ZedOne.nil
            exact ZedOne.nil
            exact ZedOne.nil
            refine ZedOne.cons (o := { dst := some 77, op := Go.Op.buildSlice 130 1 #[(0, Go.Operand.tmp 76)], type := 130, pos := "ref.go:63", after := #[{ on := 10, ground := Go.Ground.data }], guard := none }) rfl (fun K hK => ?_) ?_
            go_simp
            refine hK.out _ _ ?_ (fun hSn => ?_)
            · (try dsimp only at hS ⊢); (repeat (first | (with_reducible exact Fr.refl _ _) | (with_reducible assumption) | (with_reducible refine Fr.drew ?_) | (with_reducible refine Fr.drewN ?_ _) | (with_reducible refine Fr.alloc ?_ _) | (with_reducible refine Fr.mput ?_ _ _ _ (.inl (by simp))) | (with_reducible refine Fr.mdel ?_ _ _ (.inl (by simp))) | (with_reducible refine Fr.set ?_ _ _ (.inr (by first | omega | (dsimp only; omega)))) | (with_reducible refine Fr.set ?_ _ _ (.inl (by simp)))))
            clear hK K hS
            have hS := hSn
            clear hSn
            (try simp only [Act.put, List.setIfInBounds_toArray, List.set_cons_zero, List.set_cons_succ])
            refine wpAnyZ_ready (rs := [1]) (by kernel_rfl) (by simp) ?_
            refine ZedOne.cons (o := { dst := some 67, op := Go.Op.buildSlice 130 0 #[], type := 130, pos := "ref.go:63", after := #[], guard := none }) rfl (fun K hK => ?_) ?_
            go_simp
            refine hK.out _ _ ?_ (fun hSn => ?_)
            · (try dsimp only at hS ⊢); (repeat (first | (with_reducible exact Fr.refl _ _) | (with_reducible assumption) | (with_reducible refine Fr.drew ?_) | (with_reducible refine Fr.drewN ?_ _) | (with_reducible refine Fr.alloc ?_ _) | (with_reducible refine Fr.mput ?_ _ _ _ (.inl (by simp))) | (with_reducible refine Fr.mdel ?_ _ _ (.inl (by simp))) | (with_reducible refine Fr.set ?_ _ _ (.inr (by first | omega | (dsimp only; omega)))) | (with_reducible refine Fr.set ?_ _ _ (.inl (by simp)))))
            clear hK K hS
            have hS := hSn
            clear hSn
            (try simp only [Act.put, List.setIfInBounds_toArray, List.set_cons_zero, List.set_cons_succ])
            refine wpAnyZ_ready (rs := [8]) (by kernel_rfl) (by simp) ?_
            refine ZedOne.cons (o := { dst := some 74, op := Go.Op.call { callee := Go.Callee.builtin Go.Builtin.append, args := #[Go.Operand.tmp 67, Go.Operand.tmp 73], argTypes := #[130, 130] }, type := 130, pos := "ref.go:63", after := #[{ on := 1, ground := Go.Ground.data }, { on := 7, ground := Go.Ground.data }], guard := none }) rfl (fun K hK => ?_) ?_
            refine step_append_src rfl (.tmp 67) (.tmp 73) 130 rfl w3.heap.size 135 i0 (.agg #[.int .i64 0, .int .u32 0, .int .i64 0, .bool false, .bool false]) 5 32 Tryz.underlying130 HI.out.1 HI.out.2.1 HI.out.2.2.1 HI.out.2.2.2 rfl (by decide) _ 0 [] (by rfl) (own_empty (by first | exact heap_new _ _ | exact (by (try simp only [heap_drewN, heap_drew, heap_alloc_if, World.size_alloc, World.size_setCell, size_mput, size_mdel]); (first | (simp; done) | (simp [zeroEntry]; done) | (simp; omega) | (simp [zeroEntry]; omega)))) (by first | (simp; done) | (simp; omega))) j ((l.flatMap qcells).take (j * 5)) (.slice (some ⟨g, 0, none⟩) j cp) rfl (src_take (S := []) T3.out.1.row hS (by simp) hj (by simp)) (fun x hx => T3.out.2.2 x (by exact List.mem_of_mem_take hx)) (by unfold maxLen; omega) (by omega) (by first | (simp; done) | (simp; omega)) ?_
            intro v4 w4 hown4 hg4
            simp only [Nat.zero_add, List.nil_append] at hown4
            have HP1 := Lib.hid (And.intro hown4 (And.intro (Fr.grown (S := []) (a := w3) (by (repeat (first | (with_reducible exact Fr.refl _ _) | (with_reducible assumption) | (with_reducible refine Fr.drew ?_) | (with_reducible refine Fr.drewN ?_ _) | (with_reducible refine Fr.alloc ?_ _) | (with_reducible refine Fr.mput ?_ _ _ _ (.inl (by simp))) | (with_reducible refine Fr.mdel ?_ _ _ (.inl (by simp))) | (with_reducible refine Fr.set ?_ _ _ (.inr (by first | omega | (dsimp only; omega)))) | (with_reducible refine Fr.set ?_ _ _ (.inl (by simp)))))) hg4 (fun k hk => .inr (by simp [Value.ownBlock] at hk; omega))) (fun (B : Nat) (o : Obj) (h : _ = some o) (hne : _) => (hg4.block B (lt_of h) hne).trans h)))
            clear hown4 hg4
            refine hK.out _ _ ?_ (fun hSn => ?_)
            · exact HP1.out.2.1
            clear hK K hS
            have hS := hSn
            clear hSn
            (try simp only [Act.put, List.setIfInBounds_toArray, List.set_cons_zero, List.set_cons_succ])
            refine wpAnyZ_ready (rs := [12]) (by kernel_rfl) (by simp) ?_
            refine ZedOne.cons (o := { dst := some 78, op := Go.Op.call { callee := Go.Callee.builtin Go.Builtin.append, args := #[Go.Operand.tmp 74, Go.Operand.tmp 77], argTypes := #[130, 130] }, type := 130, pos := "ref.go:63", after := #[{ on := 8, ground := Go.Ground.data }, { on := 11, ground := Go.Ground.data }, { on := 8, ground := Go.Ground.chain }], guard := none }) rfl (fun K hK => ?_) ?_
            refine step_append_src rfl (.tmp 74) (.tmp 77) 130 rfl w3.heap.size 135 i0 (.agg #[.int .i64 0, .int .u32 0, .int .i64 0, .bool false, .bool false]) 5 32 Tryz.underlying130 HI.out.1 HI.out.2.1 HI.out.2.2.1 HI.out.2.2.2 rfl (by decide) v4 j _ rfl (own_fr (S := []) (w := w4) HP1.out.1 (by (repeat (first | (with_reducible exact Fr.refl _ _) | (with_reducible assumption) | (with_reducible refine Fr.drew ?_) | (with_reducible refine Fr.drewN ?_ _) | (with_reducible refine Fr.alloc ?_ _) | (with_reducible refine Fr.mput ?_ _ _ _ (.inl (by simp))) | (with_reducible refine Fr.mdel ?_ _ _ (.inl (by simp))) | (with_reducible refine Fr.set ?_ _ _ (.inr (by first | omega | (dsimp only; omega)))) | (with_reducible refine Fr.set ?_ _ _ (.inl (by simp)))))) (by simp)) 1 [.int .i64 id, .int .u32 addr, .int .i64 c, .bool false, .bool false] _ rfl (src_one (e := 135) (by first | exact heap_new _ _ | exact HP1.out.2.2 _ _ (by first | exact heap_new _ _ | exact (by (try simp only [heap_drewN, heap_drew, heap_alloc_if, World.size_alloc, World.size_setCell, size_mput, size_mdel]); (first | (simp; done) | (simp [zeroEntry]; done) | (simp; omega) | (simp [zeroEntry]; omega)))) (by simp [Value.ownBlock])) rfl) (by intro z hz; simp at hz; rcases hz with rfl | rfl | rfl | rfl | rfl <;> rfl) (by unfold maxLen; omega) (by omega) (Nat.le_trans HP1.out.2.1.size (by simp)) ?_
            intro v5 w5 hown5 hg5
            have HP2 := Lib.hid (And.intro hown5 (Fr.grown (S := []) (a := w3) (by (repeat (first | (with_reducible exact Fr.refl _ _) | (with_reducible assumption) | (with_reducible refine Fr.drew ?_) | (with_reducible refine Fr.drewN ?_ _) | (with_reducible refine Fr.alloc ?_ _) | (with_reducible refine Fr.mput ?_ _ _ _ (.inl (by simp))) | (with_reducible refine Fr.mdel ?_ _ _ (.inl (by simp))) | (with_reducible refine Fr.set ?_ _ _ (.inr (by first | omega | (dsimp only; omega)))) | (with_reducible refine Fr.set ?_ _ _ (.inl (by simp)))))) hg5 (fun k hk => .inr (own_base HP1.out.1 k hk))))
            clear hown5 hg5
            refine hK.out _ _ ?_ (fun hSn => ?_)
            · exact HP2.out.2
            clear hK K hS
            have hS := hSn
            clear hSn
            (try simp only [Act.put, List.setIfInBounds_toArray, List.set_cons_zero, List.set_cons_succ])
            refine wpAnyZ_ready (rs := [19]) (by kernel_rfl) (by simp) ?_
            refine ZedOne.cons (o := { dst := some 85, op := Go.Op.call { callee := Go.Callee.builtin Go.Builtin.append, args := #[Go.Operand.tmp 78, Go.Operand.tmp 84], argTypes := #[130, 130] }, type := 130, pos := "ref.go:63", after := #[{ on := 12, ground := Go.Ground.data }, { on := 18, ground := Go.Ground.data }, { on := 12, ground := Go.Ground.chain }], guard := none }) rfl (fun K hK => ?_) ?_
            refine step_append_src rfl (.tmp 78) (.tmp 84) 130 rfl w3.heap.size 135 i0 (.agg #[.int .i64 0, .int .u32 0, .int .i64 0, .bool false, .bool false]) 5 32 Tryz.underlying130 HI.out.1 HI.out.2.1 HI.out.2.2.1 HI.out.2.2.2 rfl (by decide) v5 (j + 1) _ rfl HP2.out.1 (l.length - j) ((l.flatMap qcells).drop (j * 5)) (.slice (if cp = j then some ⟨g, 0, none⟩ else some ⟨g, j * 5, none⟩) (l.length - j) (cp - j)) rfl (src_drop_if (S := []) T3.out.1.row hS (by simp) hj) (fun x hx => T3.out.2.2 x (by exact List.mem_of_mem_drop hx)) (by unfold maxLen; omega) (by omega) HP2.out.2.size ?_
            intro v6 w6 hown6 hg6
            obtain ⟨ad6, cp6, rfl, hnc6⟩ := own_form' hown6
            clear hnc6
            have HP3 := Lib.hid (And.intro hown6 (Fr.grown (S := []) (a := w3) (by (repeat (first | (with_reducible exact Fr.refl _ _) | (with_reducible assumption) | (with_reducible refine Fr.drew ?_) | (with_reducible refine Fr.drewN ?_ _) | (with_reducible refine Fr.alloc ?_ _) | (with_reducible refine Fr.mput ?_ _ _ _ (.inl (by simp))) | (with_reducible refine Fr.mdel ?_ _ _ (.inl (by simp))) | (with_reducible refine Fr.set ?_ _ _ (.inr (by first | omega | (dsimp only; omega)))) | (with_reducible refine Fr.set ?_ _ _ (.inl (by simp)))))) hg6 (fun k hk => .inr (own_base HP2.out.1 k hk))))
            clear hown6 hg6
            refine hK.out _ _ ?_ (fun hSn => ?_)
            · exact HP3.out.2
            clear hK K hS
            have hS := hSn
            clear hSn
            (try simp only [Act.put, List.setIfInBounds_toArray, List.set_cons_zero, List.set_cons_succ])
            refine wpAnyZ_take (i := 20) (oi := { dst := some 86, op := Go.Op.nilCheck (Go.Operand.tmp 66), type := 0, pos := "ref.go:63", after := #[{ on := 0, ground := Go.Ground.data }, { on := 0, ground := Go.Ground.phase }, { on := 1, ground := Go.Ground.phase }, { on := 2, ground := Go.Ground.phase }, { on := 3, ground := Go.Ground.phase }, { on := 4, ground := Go.Ground.phase }, { on := 5, ground := Go.Ground.phase }, { on := 6, ground := Go.Ground.phase }, { on := 7, ground := Go.Ground.phase }, { on := 8, ground := Go.Ground.phase }, { on := 9, ground := Go.Ground.phase }, { on := 10, ground := Go.Ground.phase }, { on := 11, ground := Go.Ground.phase }, { on := 12, ground := Go.Ground.phase }, { on := 13, ground := Go.Ground.phase }, { on := 14, ground := Go.Ground.phase }, { on := 15, ground := Go.Ground.phase }, { on := 16, ground := Go.Ground.phase }, { on := 17, ground := Go.Ground.phase }, { on := 18, ground := Go.Ground.phase }, { on := 19, ground := Go.Ground.phase }], guard := none }) (v := _) rfl (by kernel_rfl) (by kernel_rfl) (by kernel_rfl) (by kernel_rfl) (by kernel_rfl) (fun _ _ _ h => h) (Or.inl ⟨by rfl, by (intro w' hSw; (try dsimp only at hSw); go_simp); (try (with_reducible rfl))⟩) (by assumption) ?_
            simp only [Act.put, List.setIfInBounds_toArray, List.set_cons_zero, List.set_cons_succ]
            refine wpAnyZ_take (i := 21) (oi := { dst := some 87, op := Go.Op.fieldAddr 132 (Go.Operand.tmp 86) 1, type := 0, pos := "ref.go:63", after := #[{ on := 20, ground := Go.Ground.data }, { on := 0, ground := Go.Ground.phase }, { on := 1, ground := Go.Ground.phase }, { on := 2, ground := Go.Ground.phase }, { on := 3, ground := Go.Ground.phase }, { on := 4, ground := Go.Ground.phase }, { on := 5, ground := Go.Ground.phase }, { on := 6, ground := Go.Ground.phase }, { on := 7, ground := Go.Ground.phase }, { on := 8, ground := Go.Ground.phase }, { on := 9, ground := Go.Ground.phase }, { on := 10, ground := Go.Ground.phase }, { on := 11, ground := Go.Ground.phase }, { on := 12, ground := Go.Ground.phase }, { on := 13, ground := Go.Ground.phase }, { on := 14, ground := Go.Ground.phase }, { on := 15, ground := Go.Ground.phase }, { on := 16, ground := Go.Ground.phase }, { on := 17, ground := Go.Ground.phase }, { on := 18, ground := Go.Ground.phase }, { on := 19, ground := Go.Ground.phase }], guard := none }) (v := _) rfl (by kernel_rfl) (by kernel_rfl) (by kernel_rfl) (by kernel_rfl) (by kernel_rfl) (fun _ _ _ h => h) (Or.inl ⟨by rfl, by (intro w' hSw; (try dsimp only at hSw); go_simp); (try (with_reducible rfl))⟩) (by assumption) ?_
            simp only [Act.put, List.setIfInBounds_toArray, List.set_cons_zero, List.set_cons_succ]
            refine wpAnyZ_ready (rs := [22]) (by kernel_rfl) (by simp) ?_
            refine ZedOne.last (o := { dst := none, op := Go.Op.store 130 (Go.Operand.tmp 87) (Go.Operand.tmp 85), type := 0, pos := "ref.go:63", after := #[{ on := 21, ground := Go.Ground.data }, { on := 19, ground := Go.Ground.data }, { on := 19, ground := Go.Ground.chain }, { on := 0, ground := Go.Ground.phase }, { on := 1, ground := Go.Ground.phase }, { on := 2, ground := Go.Ground.phase }, { on := 3, ground := Go.Ground.phase }, { on := 4, ground := Go.Ground.phase }, { on := 5, ground := Go.Ground.phase }, { on := 6, ground := Go.Ground.phase }, { on := 7, ground := Go.Ground.phase }, { on := 8, ground := Go.Ground.phase }, { on := 9, ground := Go.Ground.phase }, { on := 10, ground := Go.Ground.phase }, { on := 11, ground := Go.Ground.phase }, { on := 12, ground := Go.Ground.phase }, { on := 13, ground := Go.Ground.phase }, { on := 14, ground := Go.Ground.phase }, { on := 15, ground := Go.Ground.phase }, { on := 16, ground := Go.Ground.phase }, { on := 17, ground := Go.Ground.phase }, { on := 18, ground := Go.Ground.phase }, { on := 19, ground := Go.Ground.phase }], guard := none }) rfl (fun K hK => ?_)
            have u5 := (hS.cell (a := ⟨q, 1, none⟩) lq3 (by simp)).trans d3
            have u6 := (hS.free (a := ⟨q, 1, none⟩) lq3 (by simp)).trans f3
            go_simp
            refine hK.out _ _ ?_
            clear hK K hS
            (try simp only [Act.put, List.setIfInBounds_toArray, List.set_cons_zero, List.set_cons_succ])
            refine wpAnyZ_done (by kernel_rfl) ?_ _
            rotate_left 1
            exact ZedOne.nil
            exact ZedOne.nil
            exact ZedOne.nil
            exact ZedOne.nil
            exact ZedOne.nil
            all_goals go_wp2
            all_goals go_returns
            all_goals have hcut := qcut ⟨id, addr, c, false, false⟩ HP3.out.1 rfl hj
            all_goals exact qadd_done hql T3.out.1 T3.out.2.1 hcut.1 (by rw [hcut.2]; omega) HP3.out.2
        · obtain rfl : j = n := by omega
          have j0 : (0 : Int) ≤ j := by omega
          have jn : decide (j < j) = false := by simp
          have HX := Lib.hid hfr
          clear hF1 hbox hQ1 hn hnc ht1 hfr
          go_wp2
          go_quiet (fail)
          go_wp2
          obtain ⟨hF1, hbox, hQ1, hn, hnc, ht1⟩ := X.out
          obtain ⟨w3, hw3⟩ : ∃ w3, w3 = wr.drewN nq := ⟨_, rfl⟩
          rw [← hw3]
          have hF13 : Fr [] w1 w3 := by have hfr := HX.out; rw [hw3]; (repeat (first | (with_reducible exact Fr.refl _ _) | (with_reducible assumption) | (with_reducible refine Fr.drew ?_) | (with_reducible refine Fr.drewN ?_ _) | (with_reducible refine Fr.alloc ?_ _) | (with_reducible refine Fr.mput ?_ _ _ _ (.inl (by simp))) | (with_reducible refine Fr.mdel ?_ _ _ (.inl (by simp))) | (with_reducible refine Fr.set ?_ _ _ (.inr (by first | omega | (dsimp only; omega)))) | (with_reducible refine Fr.set ?_ _ _ (.inl (by simp)))))
          obtain ⟨b0, b1, b2⟩ := q_three (hF13.keep hbox (by simp))
          have lb3 := lt_of (hF13.keep hbox (by simp))
          have lq3 : q < w3.heap.size := Nat.lt_of_lt_of_le lq1 hF13.size
          have d3 := (hF13.cell (a := ⟨q, 1, none⟩) lq1 (by simp)).trans t1
          have f3 := (hF13.free (a := ⟨q, 1, none⟩) lq1 (by simp)).trans (free_at ht1 1)
          subst hn
          have hQ3 := hQ1.fr hF13 (by simp)
          have hF3 := hF1.trans hF13 (by simp)
          clear hF1 hbox hQ1 ht1 hF13 hw3 c3
          rcases hQ3.row.2 with ⟨h0, hl0⟩ | ⟨g, cap, cur, h0, hgb, hg, hcap, _⟩
          · obtain rfl := List.eq_nil_of_length_eq_zero hl0
            cases h0
            have T3 := Lib.hid (And.intro hQ3 (And.intro hF3 (qcells_one [])))
            clear hQ3 hF3 hl0 hnc
            refine wp_region_zed (P := Tryz.prog) (fun wz => Fr [] w3 wz) 22 (by kernel_rfl) ?_ (fun hS => ?_)
            · exact (Fr.refl [] _).drew
            refine wpAnyZ_take (i := 0) (oi := { dst := some 66, op := Go.Op.move (Go.Operand.tmp 0), type := 40, pos := "ref.go:63", after := #[], guard := none }) (v := _) rfl (by kernel_rfl) (by kernel_rfl) (by kernel_rfl) (by kernel_rfl) (by kernel_rfl) (fun _ _ _ h => h) (Or.inl ⟨by rfl, by (intro w' hSw; (try dsimp only at hSw); go_simp); (try (with_reducible rfl))⟩) (by assumption) ?_
            simp only [Act.put, List.setIfInBounds_toArray, List.set_cons_zero, List.set_cons_succ]
            refine wpAnyZ_take (i := 2) (oi := { dst := some 68, op := Go.Op.move (Go.Operand.tmp 0), type := 40, pos := "ref.go:63", after := #[], guard := none }) (v := _) rfl (by kernel_rfl) (by kernel_rfl) (by kernel_rfl) (by kernel_rfl) (by kernel_rfl) (fun _ _ _ h => h) (Or.inl ⟨by rfl, by (intro w' hSw; (try dsimp only at hSw); go_simp); (try (with_reducible rfl))⟩) (by assumption) ?_
            simp only [Act.put, List.setIfInBounds_toArray, List.set_cons_zero, List.set_cons_succ]
            refine wpAnyZ_take (i := 3) (oi := { dst := some 69, op := Go.Op.nilCheck (Go.Operand.tmp 68), type := 0, pos := "ref.go:63", after := #[{ on := 2, ground := Go.Ground.data }], guard := none }) (v := _) rfl (by kernel_rfl) (by kernel_rfl) (by kernel_rfl) (by kernel_rfl) (by kernel_rfl) (fun _ _ _ h => h) (Or.inl ⟨by rfl, by (intro w' hSw; (try dsimp only at hSw); go_simp); (try (with_reducible rfl))⟩) (by assumption) ?_
            simp only [Act.put, List.setIfInBounds_toArray, List.set_cons_zero, List.set_cons_succ]
            refine wpAnyZ_take (i := 4) (oi := { dst := some 70, op := Go.Op.fieldAddr 132 (Go.Operand.tmp 69) 1, type := 0, pos := "ref.go:63", after := #[{ on := 3, ground := Go.Ground.data }], guard := none }) (v := _) rfl (by kernel_rfl) (by kernel_rfl) (by kernel_rfl) (by kernel_rfl) (by kernel_rfl) (fun _ _ _ h => h) (Or.inl ⟨by rfl, by (intro w' hSw; (try dsimp only at hSw); go_simp); (try (with_reducible rfl))⟩) (by assumption) ?_
            simp only [Act.put, List.setIfInBounds_toArray, List.set_cons_zero, List.set_cons_succ]
            refine wpAnyZ_take (i := 5) (oi := { dst := some 71, op := Go.Op.load 130 (Go.Operand.tmp 70), type := 130, pos := "ref.go:63", after := #[{ on := 4, ground := Go.Ground.data }], guard := none }) (v := _) rfl (by kernel_rfl) (by kernel_rfl) (by kernel_rfl) (by kernel_rfl) (by kernel_rfl) (fun _ _ _ h => h) (Or.inl ⟨by rfl, by (intro w' hSw; have k0 := (hSw.cell (a := ⟨w.heap.size, 0, none⟩) lb3 (by simp)).trans b0; have k1 := (hSw.cell (a := ⟨w.heap.size, 1, none⟩) lb3 (by simp)).trans b1; have k2 := (hSw.cell (a := ⟨w.heap.size, 2, none⟩) lb3 (by simp)).trans b2; have k5 := (hSw.cell (a := ⟨q, 1, none⟩) lq3 (by simp)).trans d3; (try dsimp only at hSw); go_simp); (try (with_reducible rfl))⟩) (by assumption) ?_
            simp only [Act.put, List.setIfInBounds_toArray, List.set_cons_zero, List.set_cons_succ]
            refine wpAnyZ_take (i := 6) (oi := { dst := some 72, op := Go.Op.move (Go.Operand.tmp 5), type := 3, pos := "ref.go:63", after := #[], guard := none }) (v := _) rfl (by kernel_rfl) (by kernel_rfl) (by kernel_rfl) (by kernel_rfl) (by kernel_rfl) (fun _ _ _ h => h) (Or.inl ⟨by rfl, by (intro w' hSw; (try dsimp only at hSw); go_simp); (try (with_reducible rfl))⟩) (by assumption) ?_
            simp only [Act.put, List.setIfInBounds_toArray, List.set_cons_zero, List.set_cons_succ]
            refine wpAnyZ_take (i := 7) (oi := { dst := some 73, op := Go.Op.slice 130 (Go.Operand.tmp 71) none (some (Go.Operand.tmp 72)) none, type := 130, pos := "ref.go:63", after := #[{ on := 5, ground := Go.Ground.data }, { on := 6, ground := Go.Ground.data }], guard := none }) (v := _) rfl (by kernel_rfl) (by kernel_rfl) (by kernel_rfl) (by kernel_rfl) (by kernel_rfl) (fun _ _ _ h => h) (Or.inl ⟨by rfl, by (intro w' hSw; (try dsimp only at hSw); go_simp); (try (with_reducible rfl))⟩) (by assumption) ?_
            simp only [Act.put, List.setIfInBounds_toArray, List.set_cons_zero, List.set_cons_succ]
            refine wpAnyZ_take (i := 9) (oi := { dst := some 75, op := Go.Op.load 56 (Go.Operand.tmp 3), type := 56, pos := "ref.go:63", after := #[], guard := none }) (v := _) rfl (by kernel_rfl) (by kernel_rfl) (by kernel_rfl) (by kernel_rfl) (by kernel_rfl) (fun _ _ _ h => h) (Or.inl ⟨by rfl, by (intro w' hSw; have k0 := (hSw.cell (a := ⟨w.heap.size, 0, none⟩) lb3 (by simp)).trans b0; have k1 := (hSw.cell (a := ⟨w.heap.size, 1, none⟩) lb3 (by simp)).trans b1; have k2 := (hSw.cell (a := ⟨w.heap.size, 2, none⟩) lb3 (by simp)).trans b2; have k5 := (hSw.cell (a := ⟨q, 1, none⟩) lq3 (by simp)).trans d3; (try dsimp only at hSw); go_simp); (try (with_reducible rfl))⟩) (by assumption) ?_
            simp only [Act.put, List.setIfInBounds_toArray, List.set_cons_zero, List.set_cons_succ]
            refine wpAnyZ_take (i := 10) (oi := { dst := some 76, op := Go.Op.build 135 #[(0, Go.Operand.tmp 75)], type := 135, pos := "ref.go:63", after := #[{ on := 9, ground := Go.Ground.data }], guard := none }) (v := _) rfl (by kernel_rfl) (by kernel_rfl) (by kernel_rfl) (by kernel_rfl) (by kernel_rfl) (fun _ _ _ h => h) (Or.inl ⟨by rfl, by (intro w' hSw; (try dsimp only at hSw); go_simp); (try (with_reducible rfl))⟩) (by assumption) ?_
            simp only [Act.put, List.setIfInBounds_toArray, List.set_cons_zero, List.set_cons_succ]
            refine wpAnyZ_take (i := 13) (oi := { dst := some 79, op := Go.Op.move (Go.Operand.tmp 0), type := 40, pos := "ref.go:63", after := #[], guard := none }) (v := _) rfl (by kernel_rfl) (by kernel_rfl) (by kernel_rfl) (by kernel_rfl) (by kernel_rfl) (fun _ _ _ h => h) (Or.inl ⟨by rfl, by (intro w' hSw; (try dsimp only at hSw); go_simp); (try (with_reducible rfl))⟩) (by assumption) ?_
            simp only [Act.put, List.setIfInBounds_toArray, List.set_cons_zero, List.set_cons_succ]
            refine wpAnyZ_take (i := 14) (oi := { dst := some 80, op := Go.Op.nilCheck (Go.Operand.tmp 79), type := 0, pos := "ref.go:63", after := #[{ on := 13, ground := Go.Ground.data }], guard := none }) (v := _) rfl (by kernel_rfl) (by kernel_rfl) (by kernel_rfl) (by kernel_rfl) (by kernel_rfl) (fun _ _ _ h => h) (Or.inl ⟨by rfl, by (intro w' hSw; (try dsimp only at hSw); go_simp); (try (with_reducible rfl))⟩) (by assumption) ?_
            simp only [Act.put, List.setIfInBounds_toArray, List.set_cons_zero, List.set_cons_succ]
            refine wpAnyZ_take (i := 15) (oi := { dst := some 81, op := Go.Op.fieldAddr 132 (Go.Operand.tmp 80) 1, type := 0, pos := "ref.go:63", after := #[{ on := 14, ground := Go.Ground.data }], guard := none }) (v := _) rfl (by kernel_rfl) (by kernel_rfl) (by kernel_rfl) (by kernel_rfl) (by kernel_rfl) (fun _ _ _ h => h) (Or.inl ⟨by rfl, by (intro w' hSw; (try dsimp only at hSw); go_simp); (try (with_reducible rfl))⟩) (by assumption) ?_
            simp only [Act.put, List.setIfInBounds_toArray, List.set_cons_zero, List.set_cons_succ]
            refine wpAnyZ_take (i := 16) (oi := { dst := some 82, op := Go.Op.load 130 (Go.Operand.tmp 81), type := 130, pos := "ref.go:63", after := #[{ on := 15, ground := Go.Ground.data }], guard := none }) (v := _) rfl (by kernel_rfl) (by kernel_rfl) (by kernel_rfl) (by kernel_rfl) (by kernel_rfl) (fun _ _ _ h => h) (Or.inl ⟨by rfl, by (intro w' hSw; have k0 := (hSw.cell (a := ⟨w.heap.size, 0, none⟩) lb3 (by simp)).trans b0; have k1 := (hSw.cell (a := ⟨w.heap.size, 1, none⟩) lb3 (by simp)).trans b1; have k2 := (hSw.cell (a := ⟨w.heap.size, 2, none⟩) lb3 (by simp)).trans b2; have k5 := (hSw.cell (a := ⟨q, 1, none⟩) lq3 (by simp)).trans d3; (try dsimp only at hSw); go_simp); (try (with_reducible rfl))⟩) (by assumption) ?_
            simp only [Act.put, List.setIfInBounds_toArray, List.set_cons_zero, List.set_cons_succ]
            refine wpAnyZ_take (i := 17) (oi := { dst := some 83, op := Go.Op.move (Go.Operand.tmp 5), type := 3, pos := "ref.go:63", after := #[], guard := none }) (v := _) rfl (by kernel_rfl) (by kernel_rfl) (by kernel_rfl) (by kernel_rfl) (by kernel_rfl) (fun _ _ _ h => h) (Or.inl ⟨by rfl, by (intro w' hSw; (try dsimp only at hSw); go_simp); (try (with_reducible rfl))⟩) (by assumption) ?_
            simp only [Act.put, List.setIfInBounds_toArray, List.set_cons_zero, List.set_cons_succ]
            refine wpAnyZ_take (i := 18) (oi := { dst := some 84, op := Go.Op.slice 130 (Go.Operand.tmp 82) (some (Go.Operand.tmp 83)) none none, type := 130, pos := "ref.go:63", after := #[{ on := 16, ground := Go.Ground.data }, { on := 17, ground := Go.Ground.data }], guard := none }) (v := _) rfl (by kernel_rfl) (by kernel_rfl) (by kernel_rfl) (by kernel_rfl) (by kernel_rfl) (fun _ _ _ h => h) (Or.inl ⟨by rfl, by (intro w' hSw; (try dsimp only at hSw); go_simp); (try (with_reducible rfl))⟩) (by assumption) ?_
            simp only [Act.put, List.setIfInBounds_toArray, List.set_cons_zero, List.set_cons_succ]
            refine wpAnyZ_ready (rs := [1, 11]) (by kernel_rfl) (by simp) ?_
            refine ZedOne.cons (o := { dst := some 67, op := Go.Op.buildSlice 130 0 #[], type := 130, pos := "ref.go:63", after := #[], guard := none }) rfl (fun K hK => ?_) ?_
            go_simp
            refine hK.out _ _ ?_ (fun hSn => ?_)
            · (try dsimp only at hS ⊢); (repeat (first | (with_reducible exact Fr.refl _ _) | (with_reducible assumption) | (with_reducible refine Fr.drew ?_) | (with_reducible refine Fr.drewN ?_ _) | (with_reducible refine Fr.alloc ?_ _) | (with_reducible refine Fr.mput ?_ _ _ _ (.inl (by simp))) | (with_reducible refine Fr.mdel ?_ _ _ (.inl (by simp))) | (with_reducible refine Fr.set ?_ _ _ (.inr (by first | omega | (dsimp only; omega)))) | (with_reducible refine Fr.set ?_ _ _ (.inl (by simp)))))
            clear hK K hS
            have hS := hSn
            clear hSn
            (try simp only [Act.put, List.setIfInBounds_toArray, List.set_cons_zero, List.set_cons_succ])
            refine wpAnyZ_ready (rs := [8, 11]) (by kernel_rfl) (by simp) ?_
            refine ZedOne.cons (o := { dst := some 74, op := Go.Op.call { callee := Go.Callee.builtin Go.Builtin.append, args := #[Go.Operand.tmp 67, Go.Operand.tmp 73], argTypes := #[130, 130] }, type := 130, pos := "ref.go:63", after := #[{ on := 1, ground := Go.Ground.data }, { on := 7, ground := Go.Ground.data }], guard := none }) rfl (fun K hK => ?_) ?_
            refine step_append_src rfl (.tmp 67) (.tmp 73) 130 rfl w3.heap.size 135 i0 (.agg #[.int .i64 0, .int .u32 0, .int .i64 0, .bool false, .bool false]) 5 32 Tryz.underlying130 HI.out.1 HI.out.2.1 HI.out.2.2.1 HI.out.2.2.2 rfl (by decide) _ 0 [] (by rfl) (own_empty (by first | exact heap_new _ _ | exact (by (try simp only [heap_drewN, heap_drew, heap_alloc_if, World.size_alloc, World.size_setCell, size_mput, size_mdel]); (first | (simp; done) | (simp [zeroEntry]; done) | (simp; omega) | (simp [zeroEntry]; omega)))) (by first | (simp; done) | (simp; omega))) 0 ([]) (.slice none 0 0) rfl ⟨rfl, .inl ⟨rfl, rfl⟩⟩ (fun x hx => T3.out.2.2 x (by simp at hx)) (by unfold maxLen; omega) (by omega) (by first | (simp; done) | (simp; omega)) ?_
            intro v4 w4 hown4 hg4
            simp only [Nat.zero_add, List.nil_append] at hown4
            have HP1 := Lib.hid (And.intro hown4 (And.intro (Fr.grown (S := []) (a := w3) (by (repeat (first | (with_reducible exact Fr.refl _ _) | (with_reducible assumption) | (with_reducible refine Fr.drew ?_) | (with_reducible refine Fr.drewN ?_ _) | (with_reducible refine Fr.alloc ?_ _) | (with_reducible refine Fr.mput ?_ _ _ _ (.inl (by simp))) | (with_reducible refine Fr.mdel ?_ _ _ (.inl (by simp))) | (with_reducible refine Fr.set ?_ _ _ (.inr (by first | omega | (dsimp only; omega)))) | (with_reducible refine Fr.set ?_ _ _ (.inl (by simp)))))) hg4 (fun k hk => .inr (by simp [Value.ownBlock] at hk; omega))) (fun (B : Nat) (o : Obj) (h : _ = some o) (hne : _) => (hg4.block B (lt_of h) hne).trans h)))
            clear hown4 hg4
            refine hK.out _ _ ?_ (fun hSn => ?_)
            · exact HP1.out.2.1
            clear hK K hS
            have hS := hSn
            clear hSn
            (try simp only [Act.put, List.setIfInBounds_toArray, List.set_cons_zero, List.set_cons_succ])
            refine wpAnyZ_ready (rs := [11]) (by kernel_rfl) (by simp) ?_
            refine ZedOne.cons (o := { dst := some 77, op := Go.Op.buildSlice 130 1 #[(0, Go.Operand.tmp 76)], type := 130, pos := "ref.go:63", after := #[{ on := 10, ground := Go.Ground.data }], guard := none }) rfl (fun K hK => ?_) ?_
            go_simp
            refine hK.out _ _ ?_ (fun hSn => ?_)
            · (try dsimp only at hS ⊢); (repeat (first | (with_reducible exact Fr.refl _ _) | (with_reducible assumption) | (with_reducible refine Fr.drew ?_) | (with_reducible refine Fr.drewN ?_ _) | (with_reducible refine Fr.alloc ?_ _) | (with_reducible refine Fr.mput ?_ _ _ _ (.inl (by simp))) | (with_reducible refine Fr.mdel ?_ _ _ (.inl (by simp))) | (with_reducible refine Fr.set ?_ _ _ (.inr (by first | omega | (dsimp only; omega)))) | (with_reducible refine Fr.set ?_ _ _ (.inl (by simp)))))
            clear hK K hS
            have hS := hSn
            clear hSn
            (try simp only [Act.put, List.setIfInBounds_toArray, List.set_cons_zero, List.set_cons_succ])
            refine wpAnyZ_ready (rs := [12]) (by kernel_rfl) (by simp) ?_
            refine ZedOne.cons (o := { dst := some 78, op := Go.Op.call { callee := Go.Callee.builtin Go.Builtin.append, args := #[Go.Operand.tmp 74, Go.Operand.tmp 77], argTypes := #[130, 130] }, type := 130, pos := "ref.go:63", after := #[{ on := 8, ground := Go.Ground.data }, { on := 11, ground := Go.Ground.data }, { on := 8, ground := Go.Ground.chain }], guard := none }) rfl (fun K hK => ?_) ?_
            refine step_append_src rfl (.tmp 74) (.tmp 77) 130 rfl w3.heap.size 135 i0 (.agg #[.int .i64 0, .int .u32 0, .int .i64 0, .bool false, .bool false]) 5 32 Tryz.underlying130 HI.out.1 HI.out.2.1 HI.out.2.2.1 HI.out.2.2.2 rfl (by decide) v4 0 _ rfl (own_fr (S := []) (w := w4) HP1.out.1 (by (repeat (first | (with_reducible exact Fr.refl _ _) | (with_reducible assumption) | (with_reducible refine Fr.drew ?_) | (with_reducible refine Fr.drewN ?_ _) | (with_reducible refine Fr.alloc ?_ _) | (with_reducible refine Fr.mput ?_ _ _ _ (.inl (by simp))) | (with_reducible refine Fr.mdel ?_ _ _ (.inl (by simp))) | (with_reducible refine Fr.set ?_ _ _ (.inr (by first | omega | (dsimp only; omega)))) | (with_reducible refine Fr.set ?_ _ _ (.inl (by simp)))))) (by simp)) 1 [.int .i64 id, .int .u32 addr, .int .i64 c, .bool false, .bool false] _ rfl (src_one (e := 135) (by first | exact heap_new _ _ | exact HP1.out.2.2 _ _ (by first | exact heap_new _ _ | exact (by (try simp only [heap_drewN, heap_drew, heap_alloc_if, World.size_alloc, World.size_setCell, size_mput, size_mdel]); (first | (simp; done) | (simp [zeroEntry]; done) | (simp; omega) | (simp [zeroEntry]; omega)))) (by simp [Value.ownBlock])) rfl) (by intro z hz; simp at hz; rcases hz with rfl | rfl | rfl | rfl | rfl <;> rfl) (by unfold maxLen; omega) (by omega) (Nat.le_trans HP1.out.2.1.size (by simp)) ?_
            intro v5 w5 hown5 hg5
            have HP2 := Lib.hid (And.intro hown5 (Fr.grown (S := []) (a := w3) (by (repeat (first | (with_reducible exact Fr.refl _ _) | (with_reducible assumption) | (with_reducible refine Fr.drew ?_) | (with_reducible refine Fr.drewN ?_ _) | (with_reducible refine Fr.alloc ?_ _) | (with_reducible refine Fr.mput ?_ _ _ _ (.inl (by simp))) | (with_reducible refine Fr.mdel ?_ _ _ (.inl (by simp))) | (with_reducible refine Fr.set ?_ _ _ (.inr (by first | omega | (dsimp only; omega)))) | (with_reducible refine Fr.set ?_ _ _ (.inl (by simp)))))) hg5 (fun k hk => .inr (own_base HP1.out.1 k hk))))
            clear hown5 hg5
            refine hK.out _ _ ?_ (fun hSn => ?_)
            · exact HP2.out.2
            clear hK K hS
            have hS := hSn
            clear hSn
            (try simp only [Act.put, List.setIfInBounds_toArray, List.set_cons_zero, List.set_cons_succ])
            refine wpAnyZ_ready (rs := [19]) (by kernel_rfl) (by simp) ?_
            refine ZedOne.cons (o := { dst := some 85, op := Go.Op.call { callee := Go.Callee.builtin Go.Builtin.append, args := #[Go.Operand.tmp 78, Go.Operand.tmp 84], argTypes := #[130, 130] }, type := 130, pos := "ref.go:63", after := #[{ on := 12, ground := Go.Ground.data }, { on := 18, ground := Go.Ground.data }, { on := 12, ground := Go.Ground.chain }], guard := none }) rfl (fun K hK => ?_) ?_
            refine step_append_src rfl (.tmp 78) (.tmp 84) 130 rfl w3.heap.size 135 i0 (.agg #[.int .i64 0, .int .u32 0, .int .i64 0, .bool false, .bool false]) 5 32 Tryz.underlying130 HI.out.1 HI.out.2.1 HI.out.2.2.1 HI.out.2.2.2 rfl (by decide) v5 (0 + 1) _ rfl HP2.out.1 0 ([]) (.slice none 0 0) rfl ⟨rfl, .inl ⟨rfl, rfl⟩⟩ (fun x hx => T3.out.2.2 x (by simp at hx)) (by unfold maxLen; omega) (by omega) HP2.out.2.size ?_
            intro v6 w6 hown6 hg6
            obtain ⟨ad6, cp6, rfl, hnc6⟩ := own_form' hown6
            clear hnc6
            have HP3 := Lib.hid (And.intro hown6 (Fr.grown (S := []) (a := w3) (by (repeat (first | (with_reducible exact Fr.refl _ _) | (with_reducible assumption) | (with_reducible refine Fr.drew ?_) | (with_reducible refine Fr.drewN ?_ _) | (with_reducible refine Fr.alloc ?_ _) | (with_reducible refine Fr.mput ?_ _ _ _ (.inl (by simp))) | (with_reducible refine Fr.mdel ?_ _ _ (.inl (by simp))) | (with_reducible refine Fr.set ?_ _ _ (.inr (by first | omega | (dsimp only; omega)))) | (with_reducible refine Fr.set ?_ _ _ (.inl (by simp)))))) hg6 (fun k hk => .inr (own_base HP2.out.1 k hk))))
            clear hown6 hg6
            refine hK.out _ _ ?_ (fun hSn => ?_)
            · exact HP3.out.2
            clear hK K hS
            have hS := hSn
            clear hSn
            (try simp only [Act.put, List.setIfInBounds_toArray, List.set_cons_zero, List.set_cons_succ])
            refine wpAnyZ_take (i := 20) (oi := { dst := some 86, op := Go.Op.nilCheck (Go.Operand.tmp 66), type := 0, pos := "ref.go:63", after := #[{ on := 0, ground := Go.Ground.data }, { on := 0, ground := Go.Ground.phase }, { on := 1, ground := Go.Ground.phase }, { on := 2, ground := Go.Ground.phase }, { on := 3, ground := Go.Ground.phase }, { on := 4, ground := Go.Ground.phase }, { on := 5, ground := Go.Ground.phase }, { on := 6, ground := Go.Ground.phase }, { on := 7, ground := Go.Ground.phase }, { on := 8, ground := Go.Ground.phase }, { on := 9, ground := Go.Ground.phase }, { on := 10, ground := Go.Ground.phase }, { on := 11, ground := Go.Ground.phase }, { on := 12, ground := Go.Ground.phase }, { on := 13, ground := Go.Ground.phase }, { on := 14, ground := Go.Ground.phase }, { on := 15, ground := Go.Ground.phase }, { on := 16, ground := Go.Ground.phase }, { on := 17, ground := Go.Ground.phase }, { on := 18, ground := Go.Ground.phase }, { on := 19, ground := Go.Ground.phase }], guard := none }) (v := _) rfl (by kernel_rfl) (by kernel_rfl) (by kernel_rfl) (by kernel_rfl) (by kernel_rfl) (fun _ _ _ h => h) (Or.inl ⟨by rfl, by (intro w' hSw; (try dsimp only at hSw); go_simp); (try (with_reducible rfl))⟩) (by assumption) ?_
            simp only [Act.put, List.setIfInBounds_toArray, List.set_cons_zero, List.set_cons_succ]
            refine wpAnyZ_take (i := 21) (oi := { dst := some 87, op := Go.Op.fieldAddr 132 (Go.Operand.tmp 86) 1, type := 0, pos := "ref.go:63", after := #[{ on := 20, ground := Go.Ground.data }, { on := 0, ground := Go.Ground.phase }, { on := 1, ground := Go.Ground.phase }, { on := 2, ground := Go.Ground.phase }, { on := 3, ground := Go.Ground.phase }, { on := 4, ground := Go.Ground.phase }, { on := 5, ground := Go.Ground.phase }, { on := 6, ground := Go.Ground.phase }, { on := 7, ground := Go.Ground.phase }, { on := 8, ground := Go.Ground.phase }, { on := 9, ground := Go.Ground.phase }, { on := 10, ground := Go.Ground.phase }, { on := 11, ground := Go.Ground.phase }, { on := 12, ground := Go.Ground.phase }, { on := 13, ground := Go.Ground.phase }, { on := 14, ground := Go.Ground.phase }, { on := 15, ground := Go.Ground.phase }, { on := 16, ground := Go.Ground.phase }, { on := 17, ground := Go.Ground.phase }, { on := 18, ground := Go.Ground.phase }, { on := 19, ground := Go.Ground.phase }], guard := none }) (v := _) rfl (by kernel_rfl) (by kernel_rfl) (by kernel_rfl) (by kernel_rfl) (by kernel_rfl) (fun _ _ _ h => h) (Or.inl ⟨by rfl, by (intro w' hSw; (try dsimp only at hSw); go_simp); (try (with_reducible rfl))⟩) (by assumption) ?_
            simp only [Act.put, List.setIfInBounds_toArray, List.set_cons_zero, List.set_cons_succ]
            refine wpAnyZ_ready (rs := [22]) (by kernel_rfl) (by simp) ?_
            refine ZedOne.last (o := { dst := none, op := Go.Op.store 130 (Go.Operand.tmp 87) (Go.Operand.tmp 85), type := 0, pos := "ref.go:63", after := #[{ on := 21, ground := Go.Ground.data }, { on := 19, ground := Go.Ground.data }, { on := 19, ground := Go.Ground.chain }, { on := 0, ground := Go.Ground.phase }, { on := 1, ground := Go.Ground.phase }, { on := 2, ground := Go.Ground.phase }, { on := 3, ground := Go.Ground.phase }, { on := 4, ground := Go.Ground.phase }, { on := 5, ground := Go.Ground.phase }, { on := 6, ground := Go.Ground.phase }, { on := 7, ground := Go.Ground.phase }, { on := 8, ground := Go.Ground.phase }, { on := 9, ground := Go.Ground.phase }, { on := 10, ground := Go.Ground.phase }, { on := 11, ground := Go.Ground.phase }, { on := 12, ground := Go.Ground.phase }, { on := 13, ground := Go.Ground.phase }, { on := 14, ground := Go.Ground.phase }, { on := 15, ground := Go.Ground.phase }, { on := 16, ground := Go.Ground.phase }, { on := 17, ground := Go.Ground.phase }, { on := 18, ground := Go.Ground.phase }, { on := 19, ground := Go.Ground.phase }], guard := none }) rfl (fun K hK => ?_)
            have u5 := (hS.cell (a := ⟨q, 1, none⟩) lq3 (by simp)).trans d3
            have u6 := (hS.free (a := ⟨q, 1, none⟩) lq3 (by simp)).trans f3
            go_simp
            refine hK.out _ _ ?_
            clear hK K hS
            (try simp only [Act.put, List.setIfInBounds_toArray, List.set_cons_zero, List.set_cons_succ])
            refine wpAnyZ_done (by kernel_rfl) ?_ _
            rotate_left 1
            exact ZedOne.nil
            exact ZedOne.nil
            exact ZedOne.nil
            refine ZedOne.cons (o := { dst := some 77, op := Go.Op.buildSlice 130 1 #[(0, Go.Operand.tmp 76)], type := 130, pos := "ref.go:63", after := #[{ on := 10, ground := Go.Ground.data }], guard := none }) rfl (fun K hK => ?_) ?_
            go_simp
            refine hK.out _ _ ?_ (fun hSn => ?_)
            · (try dsimp only at hS ⊢); (repeat (first | (with_reducible exact Fr.refl _ _) | (with_reducible assumption) | (with_reducible refine Fr.drew ?_) | (with_reducible refine Fr.drewN ?_ _) | (with_reducible refine Fr.alloc ?_ _) | (with_reducible refine Fr.mput ?_ _ _ _ (.inl (by simp))) | (with_reducible refine Fr.mdel ?_ _ _ (.inl (by simp))) | (with_reducible refine Fr.set ?_ _ _ (.inr (by first | omega | (dsimp only; omega)))) | (with_reducible refine Fr.set ?_ _ _ (.inl (by simp)))))
            clear hK K hS
            have hS := hSn
            clear hSn
            (try simp only [Act.put, List.setIfInBounds_toArray, List.set_cons_zero, List.set_cons_succ])
            refine wpAnyZ_ready (rs := [8]) (by kernel_rfl) (by simp) ?_
            refine ZedOne.cons (o := { dst := some 74, op := Go.Op.call { callee := Go.Callee.builtin Go.Builtin.append, args := #[Go.Operand.tmp 67, Go.Operand.tmp 73], argTypes := #[130, 130] }, type := 130, pos := "ref.go:63", after := #[{ on := 1, ground := Go.Ground.data }, { on := 7, ground := Go.Ground.data }], guard := none }) rfl (fun K hK => ?_) ?_
            refine step_append_src rfl (.tmp 67) (.tmp 73) 130 rfl w3.heap.size 135 i0 (.agg #[.int .i64 0, .int .u32 0, .int .i64 0, .bool false, .bool false]) 5 32 Tryz.underlying130 HI.out.1 HI.out.2.1 HI.out.2.2.1 HI.out.2.2.2 rfl (by decide) _ 0 [] (by rfl) (own_empty (by first | exact heap_new _ _ | exact (by (try simp only [heap_drewN, heap_drew, heap_alloc_if, World.size_alloc, World.size_setCell, size_mput, size_mdel]); (first | (simp; done) | (simp [zeroEntry]; done) | (simp; omega) | (simp [zeroEntry]; omega)))) (by first | (simp; done) | (simp; omega))) 0 ([]) (.slice none 0 0) rfl ⟨rfl, .inl ⟨rfl, rfl⟩⟩ (fun x hx => T3.out.2.2 x (by simp at hx)) (by unfold maxLen; omega) (by omega) (by first | (simp; done) | (simp; omega)) ?_
            intro v4 w4 hown4 hg4
            simp only [Nat.zero_add, List.nil_append] at hown4
            have HP1 := Lib.hid (And.intro hown4 (And.intro (Fr.grown (S := []) (a := w3) (by (repeat (first | (with_reducible exact Fr.refl _ _) | (with_reducible assumption) | (with_reducible refine Fr.drew ?_) | (with_reducible refine Fr.drewN ?_ _) | (with_reducible refine Fr.alloc ?_ _) | (with_reducible refine Fr.mput ?_ _ _ _ (.inl (by simp))) | (with_reducible refine Fr.mdel ?_ _ _ (.inl (by simp))) | (with_reducible refine Fr.set ?_ _ _ (.inr (by first | omega | (dsimp only; omega)))) | (with_reducible refine Fr.set ?_ _ _ (.inl (by simp)))))) hg4 (fun k hk => .inr (by simp [Value.ownBlock] at hk; omega))) (fun (B : Nat) (o : Obj) (h : _ = some o) (hne : _) => (hg4.block B (lt_of h) hne).trans h)))
            clear hown4 hg4
            refine hK.out _ _ ?_ (fun hSn => ?_)
            · exact HP1.out.2.1
            clear hK K hS
            have hS := hSn
            clear hSn
            (try simp only [Act.put, List.setIfInBounds_toArray, List.set_cons_zero, List.set_cons_succ])
            refine wpAnyZ_ready (rs := [12]) (by kernel_rfl) (by simp) ?_
            refine ZedOne.cons (o := { dst := some 78, op := Go.Op.call { callee := Go.Callee.builtin Go.Builtin.append, args := #[Go.Operand.tmp 74, Go.Operand.tmp 77], argTypes := #[130, 130] }, type := 130, pos := "ref.go:63", after := #[{ on := 8, ground := Go.Ground.data }, { on := 11, ground := Go.Ground.data }, { on := 8, ground := Go.Ground.chain }], guard := none }) rfl (fun K hK => ?_) ?_
            refine step_append_src rfl (.tmp 74) (.tmp 77) 130 rfl w3.heap.size 135 i0 (.agg #[.int .i64 0, .int .u32 0, .int .i64 0, .bool false, .bool false]) 5 32 Tryz.underlying130 HI.out.1 HI.out.2.1 HI.out.2.2.1 HI.out.2.2.2 rfl (by decide) v4 0 _ rfl (own_fr (S := []) (w := w4) HP1.out.1 (by (repeat (first | (with_reducible exact Fr.refl _ _) | (with_reducible assumption) | (with_reducible refine Fr.drew ?_) | (with_reducible refine Fr.drewN ?_ _) | (with_reducible refine Fr.alloc ?_ _) | (with_reducible refine Fr.mput ?_ _ _ _ (.inl (by simp))) | (with_reducible refine Fr.mdel ?_ _ _ (.inl (by simp))) | (with_reducible refine Fr.set ?_ _ _ (.inr (by first | omega | (dsimp only; omega)))) | (with_reducible refine Fr.set ?_ _ _ (.inl (by simp)))))) (by simp)) 1 [.int .i64 id, .int .u32 addr, .int .i64 c, .bool false, .bool false] _ rfl (src_one (e := 135) (by first | exact heap_new _ _ | exact HP1.out.2.2 _ _ (by first | exact heap_new _ _ | exact (by (try simp only [heap_drewN, heap_drew, heap_alloc_if, World.size_alloc, World.size_setCell, size_mput, size_mdel]); (first | (simp; done) | (simp [zeroEntry]; done) | (simp; omega) | (simp [zeroEntry]; omega)))) (by simp [Value.ownBlock])) rfl) (by intro z hz; simp at hz; rcases hz with rfl | rfl | rfl | rfl | rfl <;> rfl) (by unfold maxLen; omega) (by omega) (Nat.le_trans HP1.out.2.1.size (by simp)) ?_
            intro v5 w5 hown5 hg5
            have HP2 := Lib.hid (And.intro hown5 (Fr.grown (S := []) (a := w3) (by (repeat (first | (with_reducible exact Fr.refl _ _) | (with_reducible assumption) | (with_reducible refine Fr.drew ?_) | (with_reducible refine Fr.drewN ?_ _) | (with_reducible refine Fr.alloc ?_ _) | (with_reducible refine Fr.mput ?_ _ _ _ (.inl (by simp))) | (with_reducible refine Fr.mdel ?_ _ _ (.inl (by simp))) | (with_reducible refine Fr.set ?_ _ _ (.inr (by first | omega | (dsimp only; omega)))) | (with_reducible refine Fr.set ?_ _ _ (.inl (by simp)))))) hg5 (fun k hk => .inr (own_base HP1.out.1 k hk))))
            clear hown5 hg5
            refine hK.out _ _ ?_ (fun hSn => ?_)
            · exact HP2.out.2
            clear hK K hS
            have hS := hSn
            clear hSn
            (try simp only [Act.put, List.setIfInBounds_toArray, List.set_cons_zero, List.set_cons_succ])
            refine wpAnyZ_ready (rs := [19]) (by kernel_rfl) (by simp) ?_
            refine ZedOne.cons (o := { dst := some 85, op := Go.Op.call { callee := Go.Callee.builtin Go.Builtin.append, args := #[Go.Operand.tmp 78, Go.Operand.tmp 84], argTypes := #[130, 130] }, type := 130, pos := "ref.go:63", after := #[{ on := 12, ground := Go.Ground.data }, { on := 18, ground := Go.Ground.data }, { on := 12, ground := Go.Ground.chain }], guard := none }) rfl (fun K hK => ?_) ?_
            refine step_append_src rfl (.tmp 78) (.tmp 84) 130 rfl w3.heap.size 135 i0 (.agg #[.int .i64 0, .int .u32 0, .int .i64 0, .bool false, .bool false]) 5 32 Tryz.underlying130 HI.out.1 HI.out.2.1 HI.out.2.2.1 HI.out.2.2.2 rfl (by decide) v5 (0 + 1) _ rfl HP2.out.1 0 ([]) (.slice none 0 0) rfl ⟨rfl, .inl ⟨rfl, rfl⟩⟩ (fun x hx => T3.out.2.2 x (by simp at hx)) (by unfold maxLen; omega) (by omega) HP2.out.2.size ?_
            intro v6 w6 hown6 hg6
            obtain ⟨ad6, cp6, rfl, hnc6⟩ := own_form' hown6
            clear hnc6
            have HP3 := Lib.hid (And.intro hown6 (Fr.grown (S := []) (a := w3) (by (repeat (first | (with_reducible exact Fr.refl _ _) | (with_reducible assumption) | (with_reducible refine Fr.drew ?_) | (with_reducible refine Fr.drewN ?_ _) | (with_reducible refine Fr.alloc ?_ _) | (with_reducible refine Fr.mput ?_ _ _ _ (.inl (by simp))) | (with_reducible refine Fr.mdel ?_ _ _ (.inl (by simp))) | (with_reducible refine Fr.set ?_ _ _ (.inr (by first | omega | (dsimp only; omega)))) | (with_reducible refine Fr.set ?_ _ _ (.inl (by simp)))))) hg6 (fun k hk => .inr (own_base HP2.out.1 k hk))))
            clear hown6 hg6
            refine hK.out _ _ ?_ (fun hSn => ?_)
            · exact HP3.out.2
            clear hK K hS
            have hS := hSn
            clear hSn
            (try simp only [Act.put, List.setIfInBounds_toArray, List.set_cons_zero, List.set_cons_succ])
            refine wpAnyZ_take (i := 20) (oi := { dst := some 86, op := Go.Op.nilCheck (Go.Operand.tmp 66), type := 0, pos := "ref.go:63", after := #[{ on := 0, ground := Go.Ground.data }, { on := 0, ground := Go.Ground.phase }, { on := 1, ground := Go.Ground.phase }, { on := 2, ground := Go.Ground.phase }, { on := 3, ground := Go.Ground.phase }, { on := 4, ground := Go.Ground.phase }, { on := 5, ground := Go.Ground.phase }, { on := 6, ground := Go.Ground.phase }, { on := 7, ground := Go.Ground.phase }, { on := 8, ground := Go.Ground.phase }, { on := 9, ground := Go.Ground.phase }, { on := 10, ground := Go.Ground.phase }, { on := 11, ground := Go.Ground.phase }, { on := 12, ground := Go.Ground.phase }, { on := 13, ground := Go.Ground.phase }, { on := 14, ground := Go.Ground.phase }, { on := 15, ground := Go.Ground.phase }, { on := 16, ground := Go.Ground.phase }, { on := 17, ground := Go.Ground.phase }, { on := 18, ground := Go.Ground.phase }, { on := 19, ground := Go.Ground.phase }], guard := none }) (v := _) rfl (by kernel_rfl) (by kernel_rfl) (by kernel_rfl) (by kernel_rfl) (by kernel_rfl) (fun _ _ _ h => h) (Or.inl ⟨by rfl, by (intro w' hSw; (try dsimp only at hSw); go_simp); (try (with_reducible rfl))⟩) (by assumption) ?_
            simp only [Act.put, List.setIfInBounds_toArray, List.set_cons_zero, List.set_cons_succ]
            refine wpAnyZ_take (i := 21) (oi := { dst := some 87, op := Go.Op.fieldAddr 132 (Go.Operand.tmp 86) 1, type := 0, pos := "ref.go:63", after := #[{ on := 20, ground := Go.Ground.data }, { on := 0, ground := Go.Ground.phase }, { on := 1, ground := Go.Ground.phase }, { on := 2, ground := Go.Ground.phase }, { on := 3, ground := Go.Ground.phase }, { on := 4, ground := Go.Ground.phase }, { on := 5, ground := Go.Ground.phase }, { on := 6, ground := Go.Ground.phase }, { on := 7, ground := Go.Ground.phase }, { on := 8, ground := Go.Ground.phase }, { on := 9, ground := Go.Ground.phase }, { on := 10, ground := Go.Ground.phase }, { on := 11, ground := Go.Ground.phase }, { on := 12, ground := Go.Ground.phase }, { on := 13, ground := Go.Ground.phase }, { on := 14, ground := Go.Ground.phase }, { on := 15, ground := Go.Ground.phase }, { on := 16, ground := Go.Ground.phase }, { on := 17, ground := Go.Ground.phase }, { on := 18, ground := Go.Ground.phase }, { on := 19, ground := Go.Ground.phase }], guard := none }) (v := _) rfl (by kernel_rfl) (by kernel_rfl) (by kernel_rfl) (by kernel_rfl) (by kernel_rfl) (fun _ _ _ h => h) (Or.inl ⟨by rfl, by (intro w' hSw; (try dsimp only at hSw); go_simp); (try (with_reducible rfl))⟩) (by assumption) ?_
            simp only [Act.put, List.setIfInBounds_toArray, List.set_cons_zero, List.set_cons_succ]
            refine wpAnyZ_ready (rs := [22]) (by kernel_rfl) (by simp) ?_
            refine ZedOne.last (o := { dst := none, op := Go.Op.store 130 (Go.Operand.tmp 87) (Go.Operand.tmp 85), type := 0, pos := "ref.go:63", after := #[{ on := 21, ground := Go.Ground.data }, { on := 19, ground := Go.Ground.data }, { on := 19, ground := Go.Ground.chain }, { on := 0, ground := Go.Ground.phase }, { on := 1, ground := Go.Ground.phase }, { on := 2, ground := Go.Ground.phase }, { on := 3, ground := Go.Ground.phase }, { on := 4, ground := Go.Ground.phase }, { on := 5, ground := Go.Ground.phase }, { on := 6, ground := Go.Ground.phase }, { on := 7, ground := Go.Ground.phase }, { on := 8, ground := Go.Ground.phase }, { on := 9, ground := Go.Ground.phase }, { on := 10, ground := Go.Ground.phase }, { on := 11, ground := Go.Ground.phase }, { on := 12, ground := Go.Ground.phase }, { on := 13, ground := Go.Ground.phase }, { on := 14, ground := Go.Ground.phase }, { on := 15, ground := Go.Ground.phase }, { on := 16, ground := Go.Ground.phase }, { on := 17, ground := Go.Ground.phase }, { on := 18, ground := Go.Ground.phase }, { on := 19, ground := Go.Ground.phase }], guard := none }) rfl (fun K hK => ?_)
            have u5 := (hS.cell (a := ⟨q, 1, none⟩) lq3 (by simp)).trans d3
            have u6 := (hS.free (a := ⟨q, 1, none⟩) lq3 (by simp)).trans f3
            go_simp
            refine hK.out _ _ ?_
            clear hK K hS
            (try simp only [Act.put, List.setIfInBounds_toArray, List.set_cons_zero, List.set_cons_succ])
            refine wpAnyZ_done (by kernel_rfl) ?_ _
            rotate_left 1
            exact ZedOne.nil
            exact ZedOne.nil
            exact ZedOne.nil
            exact ZedOne.nil
            refine ZedOne.cons (o := { dst := some 77, op := Go.Op.buildSlice 130 1 #[(0, Go.Operand.tmp 76)], type := 130, pos := "ref.go:63", after := #[{ on := 10, ground := Go.Ground.data }], guard := none }) rfl (fun K hK => ?_) ?_
            go_simp
            refine hK.out _ _ ?_ (fun hSn => ?_)
            · (try dsimp only at hS ⊢); (repeat (first | (with_reducible exact Fr.refl _ _) | (with_reducible assumption) | (with_reducible refine Fr.drew ?_) | (with_reducible refine Fr.drewN ?_ _) | (with_reducible refine Fr.alloc ?_ _) | (with_reducible refine Fr.mput ?_ _ _ _ (.inl (by simp))) | (with_reducible refine Fr.mdel ?_ _ _ (.inl (by simp))) | (with_reducible refine Fr.set ?_ _ _ (.inr (by first | omega | (dsimp only; omega)))) | (with_reducible refine Fr.set ?_ _ _ (.inl (by simp)))))
            clear hK K hS
            have hS := hSn
            clear hSn
            (try simp only [Act.put, List.setIfInBounds_toArray, List.set_cons_zero, List.set_cons_succ])
            refine wpAnyZ_ready (rs := [1]) (by kernel_rfl) (by simp) ?_
            refine ZedOne.cons (o := { dst := some 67, op := Go.Op.buildSlice 130 0 #[], type := 130, pos := "ref.go:63", after := #[], guard := none }) rfl (fun K hK => ?_) ?_
            go_simp
            refine hK.out _ _ ?_ (fun hSn => ?_)
            · (try dsimp only at hS ⊢); (repeat (first | (with_reducible exact Fr.refl _ _) | (with_reducible assumption) | (with_reducible refine Fr.drew ?_) | (with_reducible refine Fr.drewN ?_ _) | (with_reducible refine Fr.alloc ?_ _) | (with_reducible refine Fr.mput ?_ _ _ _ (.inl (by simp))) | (with_reducible refine Fr.mdel ?_ _ _ (.inl (by simp))) | (with_reducible refine Fr.set ?_ _ _ (.inr (by first | omega | (dsimp only; omega)))) | (with_reducible refine Fr.set ?_ _ _ (.inl (by simp)))))
            clear hK K hS
            have hS := hSn
            clear hSn
            (try simp only [Act.put, List.setIfInBounds_toArray, List.set_cons_zero, List.set_cons_succ])
            refine wpAnyZ_ready (rs := [8]) (by kernel_rfl) (by simp) ?_
            refine ZedOne.cons (o := { dst := some 74, op := Go.Op.call { callee := Go.Callee.builtin Go.Builtin.append, args := #[Go.Operand.tmp 67, Go.Operand.tmp 73], argTypes := #[130, 130] }, type := 130, pos := "ref.go:63", after := #[{ on := 1, ground := Go.Ground.data }, { on := 7, ground := Go.Ground.data }], guard := none }) rfl (fun K hK => ?_) ?_
            refine step_append_src rfl (.tmp 67) (.tmp 73) 130 rfl w3.heap.size 135 i0 (.agg #[.int .i64 0, .int .u32 0, .int .i64 0, .bool false, .bool false]) 5 32 Tryz.underlying130 HI.out.1 HI.out.2.1 HI.out.2.2.1 HI.out.2.2.2 rfl (by decide) _ 0 [] (by rfl) (own_empty (by first | exact heap_new _ _ | exact (by (try simp only [heap_drewN, heap_drew, heap_alloc_if, World.size_alloc, World.size_setCell, size_mput, size_mdel]); (first | (simp; done) | (simp [zeroEntry]; done) | (simp; omega) | (simp [zeroEntry]; omega)))) (by first | (simp; done) | (simp; omega))) 0 ([]) (.slice none 0 0) rfl ⟨rfl, .inl ⟨rfl, rfl⟩⟩ (fun x hx => T3.out.2.2 x (by simp at hx)) (by unfold maxLen; omega) (by omega) (by first | (simp; done) | (simp; omega)) ?_
            intro v4 w4 hown4 hg4
            simp only [Nat.zero_add, List.nil_append] at hown4
            have HP1 := Lib.hid (And.intro hown4 (And.intro (Fr.grown (S := []) (a := w3) (by (repeat (first | (with_reducible exact Fr.refl _ _) | (with_reducible assumption) | (with_reducible refine Fr.drew ?_) | (with_reducible refine Fr.drewN ?_ _) | (with_reducible refine Fr.alloc ?_ _) | (with_reducible refine Fr.mput ?_ _ _ _ (.inl (by simp))) | (with_reducible refine Fr.mdel ?_ _ _ (.inl (by simp))) | (with_reducible refine Fr.set ?_ _ _ (.inr (by first | omega | (dsimp only; omega)))) | (with_reducible refine Fr.set ?_ _ _ (.inl (by simp)))))) hg4 (fun k hk => .inr (by simp [Value.ownBlock] at hk; omega))) (fun (B : Nat) (o : Obj) (h : _ = some o) (hne : _) => (hg4.block B (lt_of h) hne).trans h)))
            clear hown4 hg4
            refine hK.out _ _ ?_ (fun hSn => ?_)
            · exact HP1.out.2.1
            clear hK K hS
            have hS := hSn
            clear hSn
            (try simp only [Act.put, List.setIfInBounds_toArray, List.set_cons_zero, List.set_cons_succ])
            refine wpAnyZ_ready (rs := [12]) (by kernel_rfl) (by simp) ?_
            refine ZedOne.cons (o := { dst := some 78, op := Go.Op.call { callee := Go.Callee.builtin Go.Builtin.append, args := #[Go.Operand.tmp 74, Go.Operand.tmp 77], argTypes := #[130, 130] }, type := 130, pos := "ref.go:63", after := #[{ on := 8, ground := Go.Ground.data }, { on := 11, ground := Go.Ground.data }, { on := 8, ground := Go.Ground.chain }], guard := none }) rfl (fun K hK => ?_) ?_
            refine step_append_src rfl (.tmp 74) (.tmp 77) 130 rfl w3.heap.size 135 i0 (.agg #[.int .i64 0, .int .u32 0, .int .i64 0, .bool false, .bool false]) 5 32 Tryz.underlying130 HI.out.1 HI.out.2.1 HI.out.2.2.1 HI.out.2.2.2 rfl (by decide) v4 0 _ rfl (own_fr (S := []) (w := w4) HP1.out.1 (by (repeat (first | (with_reducible exact Fr.refl _ _) | (with_reducible assumption) | (with_reducible refine Fr.drew ?_) | (with_reducible refine Fr.drewN ?_ _) | (with_reducible refine Fr.alloc ?_ _) | (with_reducible refine Fr.mput ?_ _ _ _ (.inl (by simp))) | (with_reducible refine Fr.mdel ?_ _ _ (.inl (by simp))) | (with_reducible refine Fr.set ?_ _ _ (.inr (by first | omega | (dsimp only; omega)))) | (with_reducible refine Fr.set ?_ _ _ (.inl (by simp)))))) (by simp)) 1 [.int .i64 id, .int .u32 addr, .int .i64 c, .bool false, .bool false] _ rfl (src_one (e := 135) (by first | exact heap_new _ _ | exact HP1.out.2.2 _ _ (by first | exact heap_new _ _ | exact (by (try simp only [heap_drewN, heap_drew, heap_alloc_if, World.size_alloc, World.size_setCell, size_mput, size_mdel]); (first | (simp; done) | (simp [zeroEntry]; done) | (simp; omega) | (simp [zeroEntry]; omega)))) (by simp [Value.ownBlock])) rfl) (by intro z hz; simp at hz; rcases hz with rfl | rfl | rfl | rfl | rfl <;> rfl) (by unfold maxLen; omega) (by omega) (Nat.le_trans HP1.out.2.1.size (by simp)) ?_
            intro v5 w5 hown5 hg5
            have HP2 := Lib.hid (And.intro hown5 (Fr.grown (S := []) (a := w3) (by (repeat (first | (with_reducible exact Fr.refl _ _) | (with_reducible assumption) | (with_reducible refine Fr.drew ?_) | (with_reducible refine Fr.drewN ?_ _) | (with_reducible refine Fr.alloc ?_ _) | (with_reducible refine Fr.mput ?_ _ _ _ (.inl (by simp))) | (with_reducible refine Fr.mdel ?_ _ _ (.inl (by simp))) | (with_reducible refine Fr.set ?_ _ _ (.inr (by first | omega | (dsimp only; omega)))) | (with_reducible refine Fr.set ?_ _ _ (.inl (by simp)))))) hg5 (fun k hk => .inr (own_base HP1.out.1 k hk))))
            clear hown5 hg5
            refine hK.out _ _ ?_ (fun hSn => ?_)
            · exact HP2.out.2
            clear hK K hS
            have hS := hSn
            clear hSn
            (try simp only [Act.put, List.setIfInBounds_toArray, List.set_cons_zero, List.set_cons_succ])
            refine wpAnyZ_ready (rs := [19]) (by kernel_rfl) (by simp) ?_
            refine ZedOne.cons (o := { dst := some 85, op := Go.Op.call { callee := Go.Callee.builtin Go.Builtin.append, args := #[Go.Operand.tmp 78, Go.Operand.tmp 84], argTypes := #[130, 130] }, type := 130, pos := "ref.go:63", after := #[{ on := 12, ground := Go.Ground.data }, { on := 18, ground := Go.Ground.data }, { on := 12, ground := Go.Ground.chain }], guard := none }) rfl (fun K hK => ?_) ?_
            refine step_append_src rfl (.tmp 78) (.tmp 84) 130 rfl w3.heap.size 135 i0 (.agg #[.int .i64 0, .int .u32 0, .int .i64 0, .bool false, .bool false]) 5 32 Tryz.underlying130 HI.out.1 HI.out.2.1 HI.out.2.2.1 HI.out.2.2.2 rfl (by decide) v5 (0 + 1) _ rfl HP2.out.1 0 ([]) (.slice none 0 0) rfl ⟨rfl, .inl ⟨rfl, rfl⟩⟩ (fun x hx => T3.out.2.2 x (by simp at hx)) (by unfold maxLen; omega) (by omega) HP2.out.2.size ?_
            intro v6 w6 hown6 hg6
            obtain ⟨ad6, cp6, rfl, hnc6⟩ := own_form' hown6
            clear hnc6
            have HP3 := Lib.hid (And.intro hown6 (Fr.grown (S := []) (a := w3) (by (repeat (first | (with_reducible exact Fr.refl _ _) | (with_reducible assumption) | (with_reducible refine Fr.drew ?_) | (with_reducible refine Fr.drewN ?_ _) | (with_reducible refine Fr.alloc ?_ _) | (with_reducible refine Fr.mput ?_ _ _ _ (.inl (by simp))) | (with_reducible refine Fr.mdel ?_ _ _ (.inl (by simp))) | (with_reducible refine Fr.set ?_ _ _ (.inr (by first | omega | (dsimp only; omega)))) | (with_reducible refine Fr.set ?_ _ _ (.inl (by simp)))))) hg6 (fun k hk => .inr (own_base HP2.out.1 k hk))))
            clear hown6 hg6
            refine hK.out _ _ ?_ (fun hSn => ?_)
            · exact HP3.out.2
            clear hK K hS
            have hS := hSn
            clear hSn
            (try simp only [Act.put, List.setIfInBounds_toArray, List.set_cons_zero, List.set_cons_succ])
            refine wpAnyZ_take (i := 20) (oi := { dst := some 86, op := Go.Op.nilCheck (Go.Operand.tmp 66), type := 0, pos := "ref.go:63", after := #[{ on := 0, ground := Go.Ground.data }, { on := 0, ground := Go.Ground.phase }, { on := 1, ground := Go.Ground.phase }, { on := 2, ground := Go.Ground.phase }, { on := 3, ground := Go.Ground.phase }, { on := 4, ground := Go.Ground.phase }, { on := 5, ground := Go.Ground.phase }, { on := 6, ground := Go.Ground.phase }, { on := 7, ground := Go.Ground.phase }, { on := 8, ground := Go.Ground.phase }, { on := 9, ground := Go.Ground.phase }, { on := 10, ground := Go.Ground.phase }, { on := 11, ground := Go.Ground.phase }, { on := 12, ground := Go.Ground.phase }, { on := 13, ground := Go.Ground.phase }, { on := 14, ground := Go.Ground.phase }, { on := 15, ground := Go.Ground.phase }, { on := 16, ground := Go.Ground.phase }, { on := 17, ground := Go.Ground.phase }, { on := 18, ground := Go.Ground.phase }, { on := 19, ground := Go.Ground.phase }], guard := none }) (v := _) rfl (by kernel_rfl) (by kernel_rfl) (by kernel_rfl) (by kernel_rfl) (by kernel_rfl) (fun _ _ _ h => h) (Or.inl ⟨by rfl, by (intro w' hSw; (try dsimp only at hSw); go_simp); (try (with_reducible rfl))⟩) (by assumption) ?_
            simp only [Act.put, List.setIfInBounds_toArray, List.set_cons_zero, List.set_cons_succ]
            refine wpAnyZ_take (i := 21) (oi := { dst := some 87, op := Go.Op.fieldAddr 132 (Go.Operand.tmp 86) 1, type := 0, pos := "ref.go:63", after := #[{ on := 20, ground := Go.Ground.data }, { on := 0, ground := Go.Ground.phase }, { on := 1, ground := Go.Ground.phase }, { on := 2, ground := Go.Ground.phase }, { on := 3, ground := Go.Ground.phase }, { on := 4, ground := Go.Ground.phase }, { on := 5, ground := Go.Ground.phase }, { on := 6, ground := Go.Ground.phase }, { on := 7, ground := Go.Ground.phase }, { on := 8, ground := Go.Ground.phase }, { on := 9, ground := Go.Ground.phase }, { on := 10, ground := Go.Ground.phase }, { on := 11, ground := Go.Ground.phase }, { on := 12, ground := Go.Ground.phase }, { on := 13, ground := Go.Ground.phase }, { on := 14, ground := Go.Ground.phase }, { on := 15, ground := Go.Ground.phase }, { on := 16, ground := Go.Ground.phase }, { on := 17, ground := Go.Ground.phase }, { on := 18, ground := Go.Ground.phase }, { on := 19, ground := Go.Ground.phase }], guard := none }) (v := _) rfl (by kernel_rfl) (by kernel_rfl) (by kernel_rfl) (by kernel_rfl) (by kernel_rfl) (fun _ _ _ h => h) (Or.inl ⟨by rfl, by (intro w' hSw; (try dsimp only at hSw); go_simp); (try (with_reducible rfl))⟩) (by assumption) ?_
            simp only [Act.put, List.setIfInBounds_toArray, List.set_cons_zero, List.set_cons_succ]
            refine wpAnyZ_ready (rs := [22]) (by kernel_rfl) (by simp) ?_
            refine ZedOne.last (o := { dst := none, op := Go.Op.store 130 (Go.Operand.tmp 87) (Go.Operand.tmp 85), type := 0, pos := "ref.go:63", after := #[{ on := 21, ground := Go.Ground.data }, { on := 19, ground := Go.Ground.data }, { on := 19, ground := Go.Ground.chain }, { on := 0, ground := Go.Ground.phase }, { on := 1, ground := Go.Ground.phase }, { on := 2, ground := Go.Ground.phase }, { on := 3, ground := Go.Ground.phase }, { on := 4, ground := Go.Ground.phase }, { on := 5, ground := Go.Ground.phase }, { on := 6, ground := Go.Ground.phase }, { on := 7, ground := Go.Ground.phase }, { on := 8, ground := Go.Ground.phase }, { on := 9, ground := Go.Ground.phase }, { on := 10, ground := Go.Ground.phase }, { on := 11, ground := Go.Ground.phase }, { on := 12, ground := Go.Ground.phase }, { on := 13, ground := Go.Ground.phase }, { on := 14, ground := Go.Ground.phase }, { on := 15, ground := Go.Ground.phase }, { on := 16, ground := Go.Ground.phase }, { on := 17, ground := Go.Ground.phase }, { on := 18, ground := Go.Ground.phase }, { on := 19, ground := Go.Ground.phase }], guard := none }) rfl (fun K hK => ?_)
            have u5 := (hS.cell (a := ⟨q, 1, none⟩) lq3 (by simp)).trans d3
            have u6 := (hS.free (a := ⟨q, 1, none⟩) lq3 (by simp)).trans f3
            go_simp
            refine hK.out _ _ ?_
            clear hK K hS
            (try simp only [Act.put, List.setIfInBounds_toArray, List.set_cons_zero, List.set_cons_succ])
            refine wpAnyZ_done (by kernel_rfl) ?_ _
            rotate_left 1
            exact ZedOne.nil
            exact ZedOne.nil
            exact ZedOne.nil
            exact ZedOne.nil
            exact ZedOne.nil
            all_goals go_wp2
            all_goals go_returns
            all_goals have hcut := qcut (l := []) (j := 0) (n := 0) ⟨id, addr, c, false, false⟩ HP3.out.1 rfl (Nat.le_refl _)
            all_goals exact qadd_done hql T3.out.1 T3.out.2.1 hcut.1 (by rw [hcut.2]; omega) HP3.out.2
          · cases h0
            obtain ⟨j, hjl⟩ : ∃ j, j = l.length := ⟨_, rfl⟩
            have T3 := Lib.hid (And.intro hQ3 (And.intro hF3 (qcells_one l)))
            clear hQ3 hF3 hg
            have j2 : (l.length : Int) ≤ cp := by omega
            refine wp_region_zed (P := Tryz.prog) (fun wz => Fr [] w3 wz) 22 (by kernel_rfl) ?_ (fun hS => ?_)
            · exact (Fr.refl [] _).drew
            refine wpAnyZ_take (i := 0) (oi := { dst := some 66, op := Go.Op.move (Go.Operand.tmp 0), type := 40, pos := "ref.go:63", after := #[], guard := none }) (v := _) rfl (by kernel_rfl) (by kernel_rfl) (by kernel_rfl) (by kernel_rfl) (by kernel_rfl) (fun _ _ _ h => h) (Or.inl ⟨by rfl, by (intro w' hSw; (try dsimp only at hSw); go_simp); (try (with_reducible rfl))⟩) (by assumption) ?_
            simp only [Act.put, List.setIfInBounds_toArray, List.set_cons_zero, List.set_cons_succ]
            refine wpAnyZ_take (i := 2) (oi := { dst := some 68, op := Go.Op.move (Go.Operand.tmp 0), type := 40, pos := "ref.go:63", after := #[], guard := none }) (v := _) rfl (by kernel_rfl) (by kernel_rfl) (by kernel_rfl) (by kernel_rfl) (by kernel_rfl) (fun _ _ _ h => h) (Or.inl ⟨by rfl, by (intro w' hSw; (try dsimp only at hSw); go_simp); (try (with_reducible rfl))⟩) (by assumption) ?_
            simp only [Act.put, List.setIfInBounds_toArray, List.set_cons_zero, List.set_cons_succ]
            refine wpAnyZ_take (i := 3) (oi := { dst := some 69, op := Go.Op.nilCheck (Go.Operand.tmp 68), type := 0, pos := "ref.go:63", after := #[{ on := 2, ground := Go.Ground.data }], guard := none }) (v := _) rfl (by kernel_rfl) (by kernel_rfl) (by kernel_rfl) (by kernel_rfl) (by kernel_rfl) (fun _ _ _ h => h) (Or.inl ⟨by rfl, by (intro w' hSw; (try dsimp only at hSw); go_simp); (try (with_reducible rfl))⟩) (by assumption) ?_
            simp only [Act.put, List.setIfInBounds_toArray, List.set_cons_zero, List.set_cons_succ]
            refine wpAnyZ_take (i := 4) (oi := { dst := some 70, op := Go.Op.fieldAddr 132 (Go.Operand.tmp 69) 1, type := 0, pos := "ref.go:63", after := #[{ on := 3, ground := Go.Ground.data }], guard := none }) (v := _) rfl (by kernel_rfl) (by kernel_rfl) (by kernel_rfl) (by kernel_rfl) (by kernel_rfl) (fun _ _ _ h => h) (Or.inl ⟨by rfl, by (intro w' hSw; (try dsimp only at hSw); go_simp); (try (with_reducible rfl))⟩) (by assumption) ?_
            simp only [Act.put, List.setIfInBounds_toArray, List.set_cons_zero, List.set_cons_succ]
            refine wpAnyZ_take (i := 5) (oi := { dst := some 71, op := Go.Op.load 130 (Go.Operand.tmp 70), type := 130, pos := "ref.go:63", after := #[{ on := 4, ground := Go.Ground.data }], guard := none }) (v := _) rfl (by kernel_rfl) (by kernel_rfl) (by kernel_rfl) (by kernel_rfl) (by kernel_rfl) (fun _ _ _ h => h) (Or.inl ⟨by rfl, by (intro w' hSw; have k0 := (hSw.cell (a := ⟨w.heap.size, 0, none⟩) lb3 (by simp)).trans b0; have k1 := (hSw.cell (a := ⟨w.heap.size, 1, none⟩) lb3 (by simp)).trans b1; have k2 := (hSw.cell (a := ⟨w.heap.size, 2, none⟩) lb3 (by simp)).trans b2; have k5 := (hSw.cell (a := ⟨q, 1, none⟩) lq3 (by simp)).trans d3; (try dsimp only at hSw); go_simp); (try (with_reducible rfl))⟩) (by assumption) ?_
            simp only [Act.put, List.setIfInBounds_toArray, List.set_cons_zero, List.set_cons_succ]
            refine wpAnyZ_take (i := 6) (oi := { dst := some 72, op := Go.Op.move (Go.Operand.tmp 5), type := 3, pos := "ref.go:63", after := #[], guard := none }) (v := _) rfl (by kernel_rfl) (by kernel_rfl) (by kernel_rfl) (by kernel_rfl) (by kernel_rfl) (fun _ _ _ h => h) (Or.inl ⟨by rfl, by (intro w' hSw; (try dsimp only at hSw); go_simp); (try (with_reducible rfl))⟩) (by assumption) ?_
            simp only [Act.put, List.setIfInBounds_toArray, List.set_cons_zero, List.set_cons_succ]
            refine wpAnyZ_take (i := 7) (oi := { dst := some 73, op := Go.Op.slice 130 (Go.Operand.tmp 71) none (some (Go.Operand.tmp 72)) none, type := 130, pos := "ref.go:63", after := #[{ on := 5, ground := Go.Ground.data }, { on := 6, ground := Go.Ground.data }], guard := none }) (v := _) rfl (by kernel_rfl) (by kernel_rfl) (by kernel_rfl) (by kernel_rfl) (by kernel_rfl) (fun _ _ _ h => h) (Or.inl ⟨by rfl, by (intro w' hSw; (try dsimp only at hSw); go_simp); (try (with_reducible rfl))⟩) (by assumption) ?_
            simp only [Act.put, List.setIfInBounds_toArray, List.set_cons_zero, List.set_cons_succ]
            refine wpAnyZ_take (i := 9) (oi := { dst := some 75, op := Go.Op.load 56 (Go.Operand.tmp 3), type := 56, pos := "ref.go:63", after := #[], guard := none }) (v := _) rfl (by kernel_rfl) (by kernel_rfl) (by kernel_rfl) (by kernel_rfl) (by kernel_rfl) (fun _ _ _ h => h) (Or.inl ⟨by rfl, by (intro w' hSw; have k0 := (hSw.cell (a := ⟨w.heap.size, 0, none⟩) lb3 (by simp)).trans b0; have k1 := (hSw.cell (a := ⟨w.heap.size, 1, none⟩) lb3 (by simp)).trans b1; have k2 := (hSw.cell (a := ⟨w.heap.size, 2, none⟩) lb3 (by simp)).trans b2; have k5 := (hSw.cell (a := ⟨q, 1, none⟩) lq3 (by simp)).trans d3; (try dsimp only at hSw); go_simp); (try (with_reducible rfl))⟩) (by assumption) ?_
            simp only [Act.put, List.setIfInBounds_toArray, List.set_cons_zero, List.set_cons_succ]
            refine wpAnyZ_take (i := 10) (oi := { dst := some 76, op := Go.Op.build 135 #[(0, Go.Operand.tmp 75)], type := 135, pos := "ref.go:63", after := #[{ on := 9, ground := Go.Ground.data }], guard := none }) (v := _) rfl (by kernel_rfl) (by kernel_rfl) (by kernel_rfl) (by kernel_rfl) (by kernel_rfl) (fun _ _ _ h => h) (Or.inl ⟨by rfl, by (intro w' hSw; (try dsimp only at hSw); go_simp); (try (with_reducible rfl))⟩) (by assumption) ?_
            simp only [Act.put, List.setIfInBounds_toArray, List.set_cons_zero, List.set_cons_succ]
            refine wpAnyZ_take (i := 13) (oi := { dst := some 79, op := Go.Op.move (Go.Operand.tmp 0), type := 40, pos := "ref.go:63", after := #[], guard := none }) (v := _) rfl (by kernel_rfl) (by kernel_rfl) (by kernel_rfl) (by kernel_rfl) (by kernel_rfl) (fun _ _ _ h => h) (Or.inl ⟨by rfl, by (intro w' hSw; (try dsimp only at hSw); go_simp); (try (with_reducible rfl))⟩) (by assumption) ?_
            simp only [Act.put, List.setIfInBounds_toArray, List.set_cons_zero, List.set_cons_succ]
            refine wpAnyZ_take (i := 14) (oi := { dst := some 80, op := Go.Op.nilCheck (Go.Operand.tmp 79), type := 0, pos := "ref.go:63", after := #[{ on := 13, ground := Go.Ground.data }], guard := none }) (v := _) rfl (by kernel_rfl) (by kernel_rfl) (by kernel_rfl) (by kernel_rfl) (by kernel_rfl) (fun _ _ _ h => h) (Or.inl ⟨by rfl, by (intro w' hSw; (try dsimp only at hSw); go_simp); (try (with_reducible rfl))⟩) (by assumption) ?_
            simp only [Act.put, List.setIfInBounds_toArray, List.set_cons_zero, List.set_cons_succ]
            refine wpAnyZ_take (i := 15) (oi := { dst := some 81, op := Go.Op.fieldAddr 132 (Go.Operand.tmp 80) 1, type := 0, pos := "ref.go:63", after := #[{ on := 14, ground := Go.Ground.data }], guard := none }) (v := _) rfl (by kernel_rfl) (by kernel_rfl) (by kernel_rfl) (by kernel_rfl) (by kernel_rfl) (fun _ _ _ h => h) (Or.inl ⟨by rfl, by (intro w' hSw; (try dsimp only at hSw); go_simp); (try (with_reducible rfl))⟩) (by assumption) ?_
            simp only [Act.put, List.setIfInBounds_toArray, List.set_cons_zero, List.set_cons_succ]
            refine wpAnyZ_take (i := 16) (oi := { dst := some 82, op := Go.Op.load 130 (Go.Operand.tmp 81), type := 130, pos := "ref.go:63", after := #[{ on := 15, ground := Go.Ground.data }], guard := none }) (v := _) rfl (by kernel_rfl) (by kernel_rfl) (by kernel_rfl) (by kernel_rfl) (by kernel_rfl) (fun _ _ _ h => h) (Or.inl ⟨by rfl, by (intro w' hSw; have k0 := (hSw.cell (a := ⟨w.heap.size, 0, none⟩) lb3 (by simp)).trans b0; have k1 := (hSw.cell (a := ⟨w.heap.size, 1, none⟩) lb3 (by simp)).trans b1; have k2 := (hSw.cell (a := ⟨w.heap.size, 2, none⟩) lb3 (by simp)).trans b2; have k5 := (hSw.cell (a := ⟨q, 1, none⟩) lq3 (by simp)).trans d3; (try dsimp only at hSw); go_simp); (try (with_reducible rfl))⟩) (by assumption) ?_
            simp only [Act.put, List.setIfInBounds_toArray, List.set_cons_zero, List.set_cons_succ]
            refine wpAnyZ_take (i := 17) (oi := { dst := some 83, op := Go.Op.move (Go.Operand.tmp 5), type := 3, pos := "ref.go:63", after := #[], guard := none }) (v := _) rfl (by kernel_rfl) (by kernel_rfl) (by kernel_rfl) (by kernel_rfl) (by kernel_rfl) (fun _ _ _ h => h) (Or.inl ⟨by rfl, by (intro w' hSw; (try dsimp only at hSw); go_simp); (try (with_reducible rfl))⟩) (by assumption) ?_
            simp only [Act.put, List.setIfInBounds_toArray, List.set_cons_zero, List.set_cons_succ]
            refine wpAnyZ_take (i := 18) (oi := { dst := some 84, op := Go.Op.slice 130 (Go.Operand.tmp 82) (some (Go.Operand.tmp 83)) none none, type := 130, pos := "ref.go:63", after := #[{ on := 16, ground := Go.Ground.data }, { on := 17, ground := Go.Ground.data }], guard := none }) (v := _) rfl (by kernel_rfl) (by kernel_rfl) (by kernel_rfl) (by kernel_rfl) (by kernel_rfl) (fun _ _ _ h => h) (Or.inl ⟨by rfl, by (intro w' hSw; (try dsimp only at hSw); go_simp); (try (with_reducible rfl))⟩) (by assumption) ?_
            simp only [Act.put, List.setIfInBounds_toArray, List.set_cons_zero, List.set_cons_succ]
            refine wpAnyZ_ready (rs := [1, 11]) (by kernel_rfl) (by simp) ?_
            refine ZedOne.cons (o := { dst := some 67, op := Go.Op.buildSlice 130 0 #[], type := 130, pos := "ref.go:63", after := #[], guard := none }) rfl (fun K hK => ?_) ?_
            go_simp
            refine hK.out _ _ ?_ (fun hSn => ?_)
            · (try dsimp only at hS ⊢); (repeat (first | (with_reducible exact Fr.refl _ _) | (with_reducible assumption) | (with_reducible refine Fr.drew ?_) | (with_reducible refine Fr.drewN ?_ _) | (with_reducible refine Fr.alloc ?_ _) | (with_reducible refine Fr.mput ?_ _ _ _ (.inl (by simp))) | (with_reducible refine Fr.mdel ?_ _ _ (.inl (by simp))) | (with_reducible refine Fr.set ?_ _ _ (.inr (by first | omega | (dsimp only; omega)))) | (with_reducible refine Fr.set ?_ _ _ (.inl (by simp)))))
            clear hK K hS
            have hS := hSn
            clear hSn
            (try simp only [Act.put, List.setIfInBounds_toArray, List.set_cons_zero, List.set_cons_succ])
            refine wpAnyZ_ready (rs := [8, 11]) (by kernel_rfl) (by simp) ?_
            refine ZedOne.cons (o := { dst := some 74, op := Go.Op.call { callee := Go.Callee.builtin Go.Builtin.append, args := #[Go.Operand.tmp 67, Go.Operand.tmp 73], argTypes := #[130, 130] }, type := 130, pos := "ref.go:63", after := #[{ on := 1, ground := Go.Ground.data }, { on := 7, ground := Go.Ground.data }], guard := none }) rfl (fun K hK => ?_) ?_
            refine step_append_src rfl (.tmp 67) (.tmp 73) 130 rfl w3.heap.size 135 i0 (.agg #[.int .i64 0, .int .u32 0, .int .i64 0, .bool false, .bool false]) 5 32 Tryz.underlying130 HI.out.1 HI.out.2.1 HI.out.2.2.1 HI.out.2.2.2 rfl (by decide) _ 0 [] (by rfl) (own_empty (by first | exact heap_new _ _ | exact (by (try simp only [heap_drewN, heap_drew, heap_alloc_if, World.size_alloc, World.size_setCell, size_mput, size_mdel]); (first | (simp; done) | (simp [zeroEntry]; done) | (simp; omega) | (simp [zeroEntry]; omega)))) (by first | (simp; done) | (simp; omega))) l.length ((l.flatMap qcells).take (l.length * 5)) (.slice (some ⟨g, 0, none⟩) l.length cp) rfl (src_take (S := []) T3.out.1.row hS (by simp) (Nat.le_refl _) (by simp)) (fun x hx => T3.out.2.2 x (by exact List.mem_of_mem_take hx)) (by unfold maxLen; omega) (by omega) (by first | (simp; done) | (simp; omega)) ?_
            intro v4 w4 hown4 hg4
            simp only [Nat.zero_add, List.nil_append] at hown4
            have HP1 := Lib.hid (And.intro hown4 (And.intro (Fr.grown (S := []) (a := w3) (by (repeat (first | (with_reducible exact Fr.refl _ _) | (with_reducible assumption) | (with_reducible refine Fr.drew ?_) | (with_reducible refine Fr.drewN ?_ _) | (with_reducible refine Fr.alloc ?_ _) | (with_reducible refine Fr.mput ?_ _ _ _ (.inl (by simp))) | (with_reducible refine Fr.mdel ?_ _ _ (.inl (by simp))) | (with_reducible refine Fr.set ?_ _ _ (.inr (by first | omega | (dsimp only; omega)))) | (with_reducible refine Fr.set ?_ _ _ (.inl (by simp)))))) hg4 (fun k hk => .inr (by simp [Value.ownBlock] at hk; omega))) (fun (B : Nat) (o : Obj) (h : _ = some o) (hne : _) => (hg4.block B (lt_of h) hne).trans h)))
            clear hown4 hg4
            refine hK.out _ _ ?_ (fun hSn => ?_)
            · exact HP1.out.2.1
            clear hK K hS
            have hS := hSn
            clear hSn
            (try simp only [Act.put, List.setIfInBounds_toArray, List.set_cons_zero, List.set_cons_succ])
            refine wpAnyZ_ready (rs := [11]) (by kernel_rfl) (by simp) ?_
            refine ZedOne.cons (o := { dst := some 77, op := Go.Op.buildSlice 130 1 #[(0, Go.Operand.tmp 76)], type := 130, pos := "ref.go:63", after := #[{ on := 10, ground := Go.Ground.data }], guard := none }) rfl (fun K hK => ?_) ?_
            go_simp
            refine hK.out _ _ ?_ (fun hSn => ?_)
            · (try dsimp only at hS ⊢); (repeat (first | (with_reducible exact Fr.refl _ _) | (with_reducible assumption) | (with_reducible refine Fr.drew ?_) | (with_reducible refine Fr.drewN ?_ _) | (with_reducible refine Fr.alloc ?_ _) | (with_reducible refine Fr.mput ?_ _ _ _ (.inl (by simp))) | (with_reducible refine Fr.mdel ?_ _ _ (.inl (by simp))) | (with_reducible refine Fr.set ?_ _ _ (.inr (by first | omega | (dsimp only; omega)))) | (with_reducible refine Fr.set ?_ _ _ (.inl (by simp)))))
            clear hK K hS
            have hS := hSn
            clear hSn
            (try simp only [Act.put, List.setIfInBounds_toArray, List.set_cons_zero, List.set_cons_succ])
            refine wpAnyZ_ready (rs := [12]) (by kernel_rfl) (by simp) ?_
            refine ZedOne.cons (o := { dst := some 78, op := Go.Op.call { callee := Go.Callee.builtin Go.Builtin.append, args := #[Go.Operand.tmp 74, Go.Operand.tmp 77], argTypes := #[130, 130] }, type := 130, pos := "ref.go:63", after := #[{ on := 8, ground := Go.Ground.data }, { on := 11, ground := Go.Ground.data }, { on := 8, ground := Go.Ground.chain }], guard := none }) rfl (fun K hK => ?_) ?_
            refine step_append_src rfl (.tmp 74) (.tmp 77) 130 rfl w3.heap.size 135 i0 (.agg #[.int .i64 0, .int .u32 0, .int .i64 0, .bool false, .bool false]) 5 32 Tryz.underlying130 HI.out.1 HI.out.2.1 HI.out.2.2.1 HI.out.2.2.2 rfl (by decide) v4 l.length _ rfl (own_fr (S := []) (w := w4) HP1.out.1 (by (repeat (first | (with_reducible exact Fr.refl _ _) | (with_reducible assumption) | (with_reducible refine Fr.drew ?_) | (with_reducible refine Fr.drewN ?_ _) | (with_reducible refine Fr.alloc ?_ _) | (with_reducible refine Fr.mput ?_ _ _ _ (.inl (by simp))) | (with_reducible refine Fr.mdel ?_ _ _ (.inl (by simp))) | (with_reducible refine Fr.set ?_ _ _ (.inr (by first | omega | (dsimp only; omega)))) | (with_reducible refine Fr.set ?_ _ _ (.inl (by simp)))))) (by simp)) 1 [.int .i64 id, .int .u32 addr, .int .i64 c, .bool false, .bool false] _ rfl (src_one (e := 135) (by first | exact heap_new _ _ | exact HP1.out.2.2 _ _ (by first | exact heap_new _ _ | exact (by (try simp only [heap_drewN, heap_drew, heap_alloc_if, World.size_alloc, World.size_setCell, size_mput, size_mdel]); (first | (simp; done) | (simp [zeroEntry]; done) | (simp; omega) | (simp [zeroEntry]; omega)))) (by simp [Value.ownBlock])) rfl) (by intro z hz; simp at hz; rcases hz with rfl | rfl | rfl | rfl | rfl <;> rfl) (by unfold maxLen; omega) (by omega) (Nat.le_trans HP1.out.2.1.size (by simp)) ?_
            intro v5 w5 hown5 hg5
            have HP2 := Lib.hid (And.intro hown5 (Fr.grown (S := []) (a := w3) (by (repeat (first | (with_reducible exact Fr.refl _ _) | (with_reducible assumption) | (with_reducible refine Fr.drew ?_) | (with_reducible refine Fr.drewN ?_ _) | (with_reducible refine Fr.alloc ?_ _) | (with_reducible refine Fr.mput ?_ _ _ _ (.inl (by simp))) | (with_reducible refine Fr.mdel ?_ _ _ (.inl (by simp))) | (with_reducible refine Fr.set ?_ _ _ (.inr (by first | omega | (dsimp only; omega)))) | (with_reducible refine Fr.set ?_ _ _ (.inl (by simp)))))) hg5 (fun k hk => .inr (own_base HP1.out.1 k hk))))
            clear hown5 hg5
            refine hK.out _ _ ?_ (fun hSn => ?_)
            · exact HP2.out.2
            clear hK K hS
            have hS := hSn
            clear hSn
            (try simp only [Act.put, List.setIfInBounds_toArray, List.set_cons_zero, List.set_cons_succ])
            refine wpAnyZ_ready (rs := [19]) (by kernel_rfl) (by simp) ?_
            refine ZedOne.cons (o := { dst := some 85, op := Go.Op.call { callee := Go.Callee.builtin Go.Builtin.append, args := #[Go.Operand.tmp 78, Go.Operand.tmp 84], argTypes := #[130, 130] }, type := 130, pos := "ref.go:63", after := #[{ on := 12, ground := Go.Ground.data }, { on := 18, ground := Go.Ground.data }, { on := 12, ground := Go.Ground.chain }], guard := none }) rfl (fun K hK => ?_) ?_
            refine step_append_src rfl (.tmp 78) (.tmp 84) 130 rfl w3.heap.size 135 i0 (.agg #[.int .i64 0, .int .u32 0, .int .i64 0, .bool false, .bool false]) 5 32 Tryz.underlying130 HI.out.1 HI.out.2.1 HI.out.2.2.1 HI.out.2.2.2 rfl (by decide) v5 (l.length + 1) _ rfl HP2.out.1 0 ([]) (.slice (if cp = l.length then some ⟨g, 0, none⟩ else some ⟨g, l.length * 5, none⟩) 0 (cp - l.length)) rfl src_zero (fun x hx => T3.out.2.2 x (by simp at hx)) (by unfold maxLen; omega) (by omega) HP2.out.2.size ?_
            intro v6 w6 hown6 hg6
            obtain ⟨ad6, cp6, rfl, hnc6⟩ := own_form' hown6
            clear hnc6
            have HP3 := Lib.hid (And.intro hown6 (Fr.grown (S := []) (a := w3) (by (repeat (first | (with_reducible exact Fr.refl _ _) | (with_reducible assumption) | (with_reducible refine Fr.drew ?_) | (with_reducible refine Fr.drewN ?_ _) | (with_reducible refine Fr.alloc ?_ _) | (with_reducible refine Fr.mput ?_ _ _ _ (.inl (by simp))) | (with_reducible refine Fr.mdel ?_ _ _ (.inl (by simp))) | (with_reducible refine Fr.set ?_ _ _ (.inr (by first | omega | (dsimp only; omega)))) | (with_reducible refine Fr.set ?_ _ _ (.inl (by simp)))))) hg6 (fun k hk => .inr (own_base HP2.out.1 k hk))))
            clear hown6 hg6
            refine hK.out _ _ ?_ (fun hSn => ?_)
            · exact HP3.out.2
            clear hK K hS
            have hS := hSn
            clear hSn
            (try simp only [Act.put, List.setIfInBounds_toArray, List.set_cons_zero, List.set_cons_succ])
            refine wpAnyZ_take (i := 20) (oi := { dst := some 86, op := Go.Op.nilCheck (Go.Operand.tmp 66), type := 0, pos := "ref.go:63", after := #[{ on := 0, ground := Go.Ground.data }, { on := 0, ground := Go.Ground.phase }, { on := 1, ground := Go.Ground.phase }, { on := 2, ground := Go.Ground.phase }, { on := 3, ground := Go.Ground.phase }, { on := 4, ground := Go.Ground.phase }, { on := 5, ground := Go.Ground.phase }, { on := 6, ground := Go.Ground.phase }, { on := 7, ground := Go.Ground.phase }, { on := 8, ground := Go.Ground.phase }, { on := 9, ground := Go.Ground.phase }, { on := 10, ground := Go.Ground.phase }, { on := 11, ground := Go.Ground.phase }, { on := 12, ground := Go.Ground.phase }, { on := 13, ground := Go.Ground.phase }, { on := 14, ground := Go.Ground.phase }, { on := 15, ground := Go.Ground.phase }, { on := 16, ground := Go.Ground.phase }, { on := 17, ground := Go.Ground.phase }, { on := 18, ground := Go.Ground.phase }, { on := 19, ground := Go.Ground.phase }], guard := none }) (v := _) rfl (by kernel_rfl) (by kernel_rfl) (by kernel_rfl) (by kernel_rfl) (by kernel_rfl) (fun _ _ _ h => h) (Or.inl ⟨by rfl, by (intro w' hSw; (try dsimp only at hSw); go_simp); (try (with_reducible rfl))⟩) (by assumption) ?_
            simp only [Act.put, List.setIfInBounds_toArray, List.set_cons_zero, List.set_cons_succ]
            refine wpAnyZ_take (i := 21) (oi := { dst := some 87, op := Go.Op.fieldAddr 132 (Go.Operand.tmp 86) 1, type := 0, pos := "ref.go:63", after := #[{ on := 20, ground := Go.Ground.data }, { on := 0, ground := Go.Ground.phase }, { on := 1, ground := Go.Ground.phase }, { on := 2, ground := Go.Ground.phase }, { on := 3, ground := Go.Ground.phase }, { on := 4, ground := Go.Ground.phase }, { on := 5, ground := Go.Ground.phase }, { on := 6, ground := Go.Ground.phase }, { on := 7, ground := Go.Ground.phase }, { on := 8, ground := Go.Ground.phase }, { on := 9, ground := Go.Ground.phase }, { on := 10, ground := Go.Ground.phase }, { on := 11, ground := Go.Ground.phase }, { on := 12, ground := Go.Ground.phase }, { on := 13, ground := Go.Ground.phase }, { on := 14, ground := Go.Ground.phase }, { on := 15, ground := Go.Ground.phase }, { on := 16, ground := Go.Ground.phase }, { on := 17, ground := Go.Ground.phase }, { on := 18, ground := Go.Ground.phase }, { on := 19, ground := Go.Ground.phase }], guard := none }) (v := _) rfl (by kernel_rfl) (by kernel_rfl) (by kernel_rfl) (by kernel_rfl) (by kernel_rfl) (fun _ _ _ h => h) (Or.inl ⟨by rfl, by (intro w' hSw; (try dsimp only at hSw); go_simp); (try (with_reducible rfl))⟩) (by assumption) ?_
            simp only [Act.put, List.setIfInBounds_toArray, List.set_cons_zero, List.set_cons_succ]
            refine wpAnyZ_ready (rs := [22]) (by kernel_rfl) (by simp) ?_
            refine ZedOne.last (o := { dst := none, op := Go.Op.store 130 (Go.Operand.tmp 87) (Go.Operand.tmp 85), type := 0, pos := "ref.go:63", after := #[{ on := 21, ground := Go.Ground.data }, { on := 19, ground := Go.Ground.data }, { on := 19, ground := Go.Ground.chain }, { on := 0, ground := Go.Ground.phase }, { on := 1, ground := Go.Ground.phase }, { on := 2, ground := Go.Ground.phase }, { on := 3, ground := Go.Ground.phase }, { on := 4, ground := Go.Ground.phase }, { on := 5, ground := Go.Ground.phase }, { on := 6, ground := Go.Ground.phase }, { on := 7, ground := Go.Ground.phase }, { on := 8, ground := Go.Ground.phase }, { on := 9, ground := Go.Ground.phase }, { on := 10, ground := Go.Ground.phase }, { on := 11, ground := Go.Ground.phase }, { on := 12, ground := Go.Ground.phase }, { on := 13, ground := Go.Ground.phase }, { on := 14, ground := Go.Ground.phase }, { on := 15, ground := Go.Ground.phase }, { on := 16, ground := Go.Ground.phase }, { on := 17, ground := Go.Ground.phase }, { on := 18, ground := Go.Ground.phase }, { on := 19, ground := Go.Ground.phase }], guard := none }) rfl (fun K hK => ?_)
            have u5 := (hS.cell (a := ⟨q, 1, none⟩) lq3 (by simp)).trans d3
            have u6 := (hS.free (a := ⟨q, 1, none⟩) lq3 (by simp)).trans f3
            go_simp
            refine hK.out _ _ ?_
            clear hK K hS
            (try simp only [Act.put, List.setIfInBounds_toArray, List.set_cons_zero, List.set_cons_succ])
            refine wpAnyZ_done (by kernel_rfl) ?_ _
            rotate_left 1
            exact ZedOne.nil
            exact ZedOne.nil
            exact ZedOne.nil
            refine ZedOne.cons (o := { dst := some 77, op := Go.Op.buildSlice 130 1 #[(0, Go.Operand.tmp 76)], type := 130, pos := "ref.go:63", after := #[{ on := 10, ground := Go.Ground.data }], guard := none }) rfl (fun K hK => ?_) ?_
            go_simp
            refine hK.out _ _ ?_ (fun hSn => ?_)
            · (try dsimp only at hS ⊢); (repeat (first | (with_reducible exact Fr.refl _ _) | (with_reducible assumption) | (with_reducible refine Fr.drew ?_) | (with_reducible refine Fr.drewN ?_ _) | (with_reducible refine Fr.alloc ?_ _) | (with_reducible refine Fr.mput ?_ _ _ _ (.inl (by simp))) | (with_reducible refine Fr.mdel ?_ _ _ (.inl (by simp))) | (with_reducible refine Fr.set ?_ _ _ (.inr (by first | omega | (dsimp only; omega)))) | (with_reducible refine Fr.set ?_ _ _ (.inl (by simp)))))
            clear hK K hS
            have hS := hSn
            clear hSn
            (try simp only [Act.put, List.setIfInBounds_toArray, List.set_cons_zero, List.set_cons_succ])
            refine wpAnyZ_ready (rs := [8]) (by kernel_rfl) (by simp) ?_
            refine ZedOne.cons (o := { dst := some 74, op := Go.Op.call { callee := Go.Callee.builtin Go.Builtin.append, args := #[Go.Operand.tmp 67, Go.Operand.tmp 73], argTypes := #[130, 130] }, type := 130, pos := "ref.go:63", after := #[{ on := 1, ground := Go.Ground.data }, { on := 7, ground := Go.Ground.data }], guard := none }) rfl (fun K hK => ?_) ?_
            refine step_append_src rfl (.tmp 67) (.tmp 73) 130 rfl w3.heap.size 135 i0 (.agg #[.int .i64 0, .int .u32 0, .int .i64 0, .bool false, .bool false]) 5 32 Tryz.underlying130 HI.out.1 HI.out.2.1 HI.out.2.2.1 HI.out.2.2.2 rfl (by decide) _ 0 [] (by rfl) (own_empty (by first | exact heap_new _ _ | exact (by (try simp only [heap_drewN, heap_drew, heap_alloc_if, World.size_alloc, World.size_setCell, size_mput, size_mdel]); (first | (simp; done) | (simp [zeroEntry]; done) | (simp; omega) | (simp [zeroEntry]; omega)))) (by first | (simp; done) | (simp; omega))) l.length ((l.flatMap qcells).take (l.length * 5)) (.slice (some ⟨g, 0, none⟩) l.length cp) rfl (src_take (S := []) T3.out.1.row hS (by simp) (Nat.le_refl _) (by simp)) (fun x hx => T3.out.2.2 x (by exact List.mem_of_mem_take hx)) (by unfold maxLen; omega) (by omega) (by first | (simp; done) | (simp; omega)) ?_
            intro v4 w4 hown4 hg4
            simp only [Nat.zero_add, List.nil_append] at hown4
            have HP1 := Lib.hid (And.intro hown4 (And.intro (Fr.grown (S := []) (a := w3) (by (repeat (first | (with_reducible exact Fr.refl _ _) | (with_reducible assumption) | (with_reducible refine Fr.drew ?_) | (with_reducible refine Fr.drewN ?_ _) | (with_reducible refine Fr.alloc ?_ _) | (with_reducible refine Fr.mput ?_ _ _ _ (.inl (by simp))) | (with_reducible refine Fr.mdel ?_ _ _ (.inl (by simp))) | (with_reducible refine Fr.set ?_ _ _ (.inr (by first | omega | (dsimp only; omega)))) | (with_reducible refine Fr.set ?_ _ _ (.inl (by simp)))))) hg4 (fun k hk => .inr (by simp [Value.ownBlock] at hk; omega))) (fun (B : Nat) (o : Obj) (h : _ = some o) (hne : _) => (hg4.block B (lt_of h) hne).trans h)))
            clear hown4 hg4
            refine hK.out _ _ ?_ (fun hSn => ?_)
            · exact HP1.out.2.1
            clear hK K hS
            have hS := hSn
            clear hSn
            (try simp only [Act.put, List.setIfInBounds_toArray, List.set_cons_zero, List.set_cons_succ])
            refine wpAnyZ_ready (rs := [12]) (by kernel_rfl) (by simp) ?_
            refine ZedOne.cons (o := { dst := some 78, op := Go.Op.call { callee := Go.Callee.builtin Go.Builtin.append, args := #[Go.Operand.tmp 74, Go.Operand.tmp 77], argTypes := #[130, 130] }, type := 130, pos := "ref.go:63", after := #[{ on := 8, ground := Go.Ground.data }, { on := 11, ground := Go.Ground.data }, { on := 8, ground := Go.Ground.chain }], guard := none }) rfl (fun K hK => ?_) ?_
            refine step_append_src rfl (.tmp 74) (.tmp 77) 130 rfl w3.heap.size 135 i0 (.agg #[.int .i64 0, .int .u32 0, .int .i64 0, .bool false, .bool false]) 5 32 Tryz.underlying130 HI.out.1 HI.out.2.1 HI.out.2.2.1 HI.out.2.2.2 rfl (by decide) v4 l.length _ rfl (own_fr (S := []) (w := w4) HP1.out.1 (by (repeat (first | (with_reducible exact Fr.refl _ _) | (with_reducible assumption) | (with_reducible refine Fr.drew ?_) | (with_reducible refine Fr.drewN ?_ _) | (with_reducible refine Fr.alloc ?_ _) | (with_reducible refine Fr.mput ?_ _ _ _ (.inl (by simp))) | (with_reducible refine Fr.mdel ?_ _ _ (.inl (by simp))) | (with_reducible refine Fr.set ?_ _ _ (.inr (by first | omega | (dsimp only; omega)))) | (with_reducible refine Fr.set ?_ _ _ (.inl (by simp)))))) (by simp)) 1 [.int .i64 id, .int .u32 addr, .int .i64 c, .bool false, .bool false] _ rfl (src_one (e := 135) (by first | exact heap_new _ _ | exact HP1.out.2.2 _ _ (by first | exact heap_new _ _ | exact (by (try simp only [heap_drewN, heap_drew, heap_alloc_if, World.size_alloc, World.size_setCell, size_mput, size_mdel]); (first | (simp; done) | (simp [zeroEntry]; done) | (simp; omega) | (simp [zeroEntry]; omega)))) (by simp [Value.ownBlock])) rfl) (by intro z hz; simp at hz; rcases hz with rfl | rfl | rfl | rfl | rfl <;> rfl) (by unfold maxLen; omega) (by omega) (Nat.le_trans HP1.out.2.1.size (by simp)) ?_
            intro v5 w5 hown5 hg5
            have HP2 := Lib.hid (And.intro hown5 (Fr.grown (S := []) (a := w3) (by (repeat (first | (with_reducible exact Fr.refl _ _) | (with_reducible assumption) | (with_reducible refine Fr.drew ?_) | (with_reducible refine Fr.drewN ?_ _) | (with_reducible refine Fr.alloc ?_ _) | (with_reducible refine Fr.mput ?_ _ _ _ (.inl (by simp))) | (with_reducible refine Fr.mdel ?_ _ _ (.inl (by simp))) | (with_reducible refine Fr.set ?_ _ _ (.inr (by first | omega | (dsimp only; omega)))) | (with_reducible refine Fr.set ?_ _ _ (.inl (by simp)))))) hg5 (fun k hk => .inr (own_base HP1.out.1 k hk))))
            clear hown5 hg5
            refine hK.out _ _ ?_ (fun hSn => ?_)
            · exact HP2.out.2
            clear hK K hS
            have hS := hSn
            clear hSn
            (try simp only [Act.put, List.setIfInBounds_toArray, List.set_cons_zero, List.set_cons_succ])
            refine wpAnyZ_ready (rs := [19]) (by kernel_rfl) (by simp) ?_
            refine ZedOne.cons (o := { dst := some 85, op := Go.Op.call { callee := Go.Callee.builtin Go.Builtin.append, args := #[Go.Operand.tmp 78, Go.Operand.tmp 84], argTypes := #[130, 130] }, type := 130, pos := "ref.go:63", after := #[{ on := 12, ground := Go.Ground.data }, { on := 18, ground := Go.Ground.data }, { on := 12, ground := Go.Ground.chain }], guard := none }) rfl (fun K hK => ?_) ?_
            refine step_append_src rfl (.tmp 78) (.tmp 84) 130 rfl w3.heap.size 135 i0 (.agg #[.int .i64 0, .int .u32 0, .int .i64 0, .bool false, .bool false]) 5 32 Tryz.underlying130 HI.out.1 HI.out.2.1 HI.out.2.2.1 HI.out.2.2.2 rfl (by decide) v5 (l.length + 1) _ rfl HP2.out.1 0 ([]) (.slice (if cp = l.length then some ⟨g, 0, none⟩ else some ⟨g, l.length * 5, none⟩) 0 (cp - l.length)) rfl src_zero (fun x hx => T3.out.2.2 x (by simp at hx)) (by unfold maxLen; omega) (by omega) HP2.out.2.size ?_
            intro v6 w6 hown6 hg6
            obtain ⟨ad6, cp6, rfl, hnc6⟩ := own_form' hown6
            clear hnc6
            have HP3 := Lib.hid (And.intro hown6 (Fr.grown (S := []) (a := w3) (by (repeat (first | (with_reducible exact Fr.refl _ _) | (with_reducible assumption) | (with_reducible refine Fr.drew ?_) | (with_reducible refine Fr.drewN ?_ _) | (with_reducible refine Fr.alloc ?_ _) | (with_reducible refine Fr.mput ?_ _ _ _ (.inl (by simp))) | (with_reducible refine Fr.mdel ?_ _ _ (.inl (by simp))) | (with_reducible refine Fr.set ?_ _ _ (.inr (by first | omega | (dsimp only; omega)))) | (with_reducible refine Fr.set ?_ _ _ (.inl (by simp)))))) hg6 (fun k hk => .inr (own_base HP2.out.1 k hk))))
            clear hown6 hg6
            refine hK.out _ _ ?_ (fun hSn => ?_)
            · exact HP3.out.2
            clear hK K hS
            have hS := hSn
            clear hSn
            (try simp only [Act.put, List.setIfInBounds_toArray, List.set_cons_zero, List.set_cons_succ])
            refine wpAnyZ_take (i := 20) (oi := { dst := some 86, op := Go.Op.nilCheck (Go.Operand.tmp 66), type := 0, pos := "ref.go:63", after := #[{ on := 0, ground := Go.Ground.data }, { on := 0, ground := Go.Ground.phase }, { on := 1, ground := Go.Ground.phase }, { on := 2, ground := Go.Ground.phase }, { on := 3, ground := Go.Ground.phase }, { on := 4, ground := Go.Ground.phase }, { on := 5, ground := Go.Ground.phase }, { on := 6, ground := Go.Ground.phase }, { on := 7, ground := Go.Ground.phase }, { on := 8, ground := Go.Ground.phase }, { on := 9, ground := Go.Ground.phase }, { on := 10, ground := Go.Ground.phase }, { on := 11, ground := Go.Ground.phase }, { on := 12, ground := Go.Ground.phase }, { on := 13, ground := Go.Ground.phase }, { on := 14, ground := Go.Ground.phase }, { on := 15, ground := Go.Ground.phase }, { on := 16, ground := Go.Ground.phase }, { on := 17, ground := Go.Ground.phase }, { on := 18, ground := Go.Ground.phase }, { on := 19, ground := Go.Ground.phase }], guard := none }) (v := _) rfl (by kernel_rfl) (by kernel_rfl) (by kernel_rfl) (by kernel_rfl) (by kernel_rfl) (fun _ _ _ h => h) (Or.inl ⟨by rfl, by (intro w' hSw; (try dsimp only at hSw); go_simp); (try (with_reducible rfl))⟩) (by assumption) ?_
            simp only [Act.put, List.setIfInBounds_toArray, List.set_cons_zero, List.set_cons_succ]
            refine wpAnyZ_take (i := 21) (oi := { dst := some 87, op := Go.Op.fieldAddr 132 (Go.Operand.tmp 86) 1, type := 0, pos := "ref.go:63", after := #[{ on := 20, ground := Go.Ground.data }, { on := 0, ground := Go.Ground.phase }, { on := 1, ground := Go.Ground.phase }, { on := 2, ground := Go.Ground.phase }, { on := 3, ground := Go.Ground.phase }, { on := 4, ground := Go.Ground.phase }, { on := 5, ground := Go.Ground.phase }, { on := 6, ground := Go.Ground.phase }, { on := 7, ground := Go.Ground.phase }, { on := 8, ground := Go.Ground.phase }, { on := 9, ground := Go.Ground.phase }, { on := 10, ground := Go.Ground.phase }, { on := 11, ground := Go.Ground.phase }, { on := 12, ground := Go.Ground.phase }, { on := 13, ground := Go.Ground.phase }, { on := 14, ground := Go.Ground.phase }, { on := 15, ground := Go.Ground.phase }, { on := 16, ground := Go.Ground.phase }, { on := 17, ground := Go.Ground.phase }, { on := 18, ground := Go.Ground.phase }, { on := 19, ground := Go.Ground.phase }], guard := none }) (v := _) rfl (by kernel_rfl) (by kernel_rfl) (by kernel_rfl) (by kernel_rfl) (by kernel_rfl) (fun _ _ _ h => h) (Or.inl ⟨by rfl, by (intro w' hSw; (try dsimp only at hSw); go_simp); (try (with_reducible rfl))⟩) (by assumption) ?_
            simp only [Act.put, List.setIfInBounds_toArray, List.set_cons_zero, List.set_cons_succ]
            refine wpAnyZ_ready (rs := [22]) (by kernel_rfl) (by simp) ?_
            refine ZedOne.last (o := { dst := none, op := Go.Op.store 130 (Go.Operand.tmp 87) (Go.Operand.tmp 85), type := 0, pos := "ref.go:63", after := #[{ on := 21, ground := Go.Ground.data }, { on := 19, ground := Go.Ground.data }, { on := 19, ground := Go.Ground.chain }, { on := 0, ground := Go.Ground.phase }, { on := 1, ground := Go.Ground.phase }, { on := 2, ground := Go.Ground.phase }, { on := 3, ground := Go.Ground.phase }, { on := 4, ground := Go.Ground.phase }, { on := 5, ground := Go.Ground.phase }, { on := 6, ground := Go.Ground.phase }, { on := 7, ground := Go.Ground.phase }, { on := 8, ground := Go.Ground.phase }, { on := 9, ground := Go.Ground.phase }, { on := 10, ground := Go.Ground.phase }, { on := 11, ground := Go.Ground.phase }, { on := 12, ground := Go.Ground.phase }, { on := 13, ground := Go.Ground.phase }, { on := 14, ground := Go.Ground.phase }, { on := 15, ground := Go.Ground.phase }, { on := 16, ground := Go.Ground.phase }, { on := 17, ground := Go.Ground.phase }, { on := 18, ground := Go.Ground.phase }, { on := 19, ground := Go.Ground.phase }], guard := none }) rfl (fun K hK => ?_)
            have u5 := (hS.cell (a := ⟨q, 1, none⟩) lq3 (by simp)).trans d3
            have u6 := (hS.free (a := ⟨q, 1, none⟩) lq3 (by simp)).trans f3
            go_simp
            refine hK.out _ _ ?_
            clear hK K hS
            (try simp only [Act.put, List.setIfInBounds_toArray, List.set_cons_zero, List.set_cons_succ])
            refine wpAnyZ_done (by kernel_rfl) ?_ _
            rotate_left 1
            exact ZedOne.nil
            exact ZedOne.nil
            exact ZedOne.nil
            exact ZedOne.nil
            refine ZedOne.cons (o := { dst := some 77, op := Go.Op.buildSlice 130 1 #[(0, Go.Operand.tmp 76)], type := 130, pos := "ref.go:63", after := #[{ on := 10, ground := Go.Ground.data }], guard := none }) rfl (fun K hK => ?_) ?_
            go_simp
            refine hK.out _ _ ?_ (fun hSn => ?_)
            · (try dsimp only at hS ⊢); (repeat (first | (with_reducible exact Fr.refl _ _) | (with_reducible assumption) | (with_reducible refine Fr.drew ?_) | (with_reducible refine Fr.drewN ?_ _) | (with_reducible refine Fr.alloc ?_ _) | (with_reducible refine Fr.mput ?_ _ _ _ (.inl (by simp))) | (with_reducible refine Fr.mdel ?_ _ _ (.inl (by simp))) | (with_reducible refine Fr.set ?_ _ _ (.inr (by first | omega | (dsimp only; omega)))) | (with_reducible refine Fr.set ?_ _ _ (.inl (by simp)))))
            clear hK K hS
            have hS := hSn
            clear hSn
            (try simp only [Act.put, List.setIfInBounds_toArray, List.set_cons_zero, List.set_cons_succ])
            refine wpAnyZ_ready (rs := [1]) (by kernel_rfl) (by simp) ?_
            refine ZedOne.cons (o := { dst := some 67, op := Go.Op.buildSlice 130 0 #[], type := 130, pos := "ref.go:63", after := #[], guard := none }) rfl (fun K hK => ?_) ?_
            go_simp
            refine hK.out _ _ ?_ (fun hSn => ?_)
            · (try dsimp only at hS ⊢); (repeat (first | (with_reducible exact Fr.refl _ _) | (with_reducible assumption) | (with_reducible refine Fr.drew ?_) | (with_reducible refine Fr.drewN ?_ _) | (with_reducible refine Fr.alloc ?_ _) | (with_reducible refine Fr.mput ?_ _ _ _ (.inl (by simp))) | (with_reducible refine Fr.mdel ?_ _ _ (.inl (by simp))) | (with_reducible refine Fr.set ?_ _ _ (.inr (by first | omega | (dsimp only; omega)))) | (with_reducible refine Fr.set ?_ _ _ (.inl (by simp)))))
            clear hK K hS
            have hS := hSn
            clear hSn
            (try simp only [Act.put, List.setIfInBounds_toArray, List.set_cons_zero, List.set_cons_succ])
            refine wpAnyZ_ready (rs := [8]) (by kernel_rfl) (by simp) ?_
            refine ZedOne.cons (o := { dst := some 74, op := Go.Op.call { callee := Go.Callee.builtin Go.Builtin.append, args := #[Go.Operand.tmp 67, Go.Operand.tmp 73], argTypes := #[130, 130] }, type := 130, pos := "ref.go:63", after := #[{ on := 1, ground := Go.Ground.data }, { on := 7, ground := Go.Ground.data }], guard := none }) rfl (fun K hK => ?_) ?_
            refine step_append_src rfl (.tmp 67) (.tmp 73) 130 rfl w3.heap.size 135 i0 (.agg #[.int .i64 0, .int .u32 0, .int .i64 0, .bool false, .bool false]) 5 32 Tryz.underlying130 HI.out.1 HI.out.2.1 HI.out.2.2.1 HI.out.2.2.2 rfl (by decide) _ 0 [] (by rfl) (own_empty (by first | exact heap_new _ _ | exact (by (try simp only [heap_drewN, heap_drew, heap_alloc_if, World.size_alloc, World.size_setCell, size_mput, size_mdel]); (first | (simp; done) | (simp [zeroEntry]; done) | (simp; omega) | (simp [zeroEntry]; omega)))) (by first | (simp; done) | (simp; omega))) l.length ((l.flatMap qcells).take (l.length * 5)) (.slice (some ⟨g, 0, none⟩) l.length cp) rfl (src_take (S := []) T3.out.1.row hS (by simp) (Nat.le_refl _) (by simp)) (fun x hx => T3.out.2.2 x (by exact List.mem_of_mem_take hx)) (by unfold maxLen; omega) (by omega) (by first | (simp; done) | (simp; omega)) ?_
            intro v4 w4 hown4 hg4
            simp only [Nat.zero_add, List.nil_append] at hown4
            have HP1 := Lib.hid (And.intro hown4 (And.intro (Fr.grown (S := []) (a := w3) (by (repeat (first | (with_reducible exact Fr.refl _ _) | (with_reducible assumption) | (with_reducible refine Fr.drew ?_) | (with_reducible refine Fr.drewN ?_ _) | (with_reducible refine Fr.alloc ?_ _) | (with_reducible refine Fr.mput ?_ _ _ _ (.inl (by simp))) | (with_reducible refine Fr.mdel ?_ _ _ (.inl (by simp))) | (with_reducible refine Fr.set ?_ _ _ (.inr (by first | omega | (dsimp only; omega)))) | (with_reducible refine Fr.set ?_ _ _ (.inl (by simp)))))) hg4 (fun k hk => .inr (by simp [Value.ownBlock] at hk; omega))) (fun (B : Nat) (o : Obj) (h : _ = some o) (hne : _) => (hg4.block B (lt_of h) hne).trans h)))
            clear hown4 hg4
            refine hK.out _ _ ?_ (fun hSn => ?_)
            · exact HP1.out.2.1
            clear hK K hS
            have hS := hSn
            clear hSn
            (try simp only [Act.put, List.setIfInBounds_toArray, List.set_cons_zero, List.set_cons_succ])
            refine wpAnyZ_ready (rs := [12]) (by kernel_rfl) (by simp) ?_
            refine ZedOne.cons (o := { dst := some 78, op := Go.Op.call { callee := Go.Callee.builtin Go.Builtin.append, args := #[Go.Operand.tmp 74, Go.Operand.tmp 77], argTypes := #[130, 130] }, type := 130, pos := "ref.go:63", after := #[{ on := 8, ground := Go.Ground.data }, { on := 11, ground := Go.Ground.data }, { on := 8, ground := Go.Ground.chain }], guard := none }) rfl (fun K hK => ?_) ?_
            refine step_append_src rfl (.tmp 74) (.tmp 77) 130 rfl w3.heap.size 135 i0 (.agg #[.int .i64 0, .int .u32 0, .int .i64 0, .bool false, .bool false]) 5 32 Tryz.underlying130 HI.out.1 HI.out.2.1 HI.out.2.2.1 HI.out.2.2.2 rfl (by decide) v4 l.length _ rfl (own_fr (S := []) (w := w4) HP1.out.1 (by (repeat (first | (with_reducible exact Fr.refl _ _) | (with_reducible assumption) | (with_reducible refine Fr.drew ?_) | (with_reducible refine Fr.drewN ?_ _) | (with_reducible refine Fr.alloc ?_ _) | (with_reducible refine Fr.mput ?_ _ _ _ (.inl (by simp))) | (with_reducible refine Fr.mdel ?_ _ _ (.inl (by simp))) | (with_reducible refine Fr.set ?_ _ _ (.inr (by first | omega | (dsimp only; omega)))) | (with_reducible refine Fr.set ?_ _ _ (.inl (by simp)))))) (by simp)) 1 [.int .i64 id, .int .u32 addr, .int .i64 c, .bool false, .bool false] _ rfl (src_one (e := 135) (by first | exact heap_new _ _ | exact HP1.out.2.2 _ _ (by first | exact heap_new _ _ | exact (by (try simp only [heap_drewN, heap_drew, heap_alloc_if, World.size_alloc, World.size_setCell, size_mput, size_mdel]); (first | (simp; done) | (simp [zeroEntry]; done) | (simp; omega) | (simp [zeroEntry]; omega)))) (by simp [Value.ownBlock])) rfl) (by intro z hz; simp at hz; rcases hz with rfl | rfl | rfl | rfl | rfl <;> rfl) (by unfold maxLen; omega) (by omega) (Nat.le_trans HP1.out.2.1.size (by simp)) ?_
            intro v5 w5 hown5 hg5
            have HP2 := Lib.hid (And.intro hown5 (Fr.grown (S := []) (a := w3) (by (repeat (first | (with_reducible exact Fr.refl _ _) | (with_reducible assumption) | (with_reducible refine Fr.drew ?_) | (with_reducible refine Fr.drewN ?_ _) | (with_reducible refine Fr.alloc ?_ _) | (with_reducible refine Fr.mput ?_ _ _ _ (.inl (by simp))) | (with_reducible refine Fr.mdel ?_ _ _ (.inl (by simp))) | (with_reducible refine Fr.set ?_ _ _ (.inr (by first | omega | (dsimp only; omega)))) | (with_reducible refine Fr.set ?_ _ _ (.inl (by simp)))))) hg5 (fun k hk => .inr (own_base HP1.out.1 k hk))))
            clear hown5 hg5
            refine hK.out _ _ ?_ (fun hSn => ?_)
            · exact HP2.out.2
            clear hK K hS
            have hS := hSn
            clear hSn
            (try simp only [Act.put, List.setIfInBounds_toArray, List.set_cons_zero, List.set_cons_succ])
            refine wpAnyZ_ready (rs := [19]) (by kernel_rfl) (by simp) ?_
            refine ZedOne.cons (o := { dst := some 85, op := Go.Op.call { callee := Go.Callee.builtin Go.Builtin.append, args := #[Go.Operand.tmp 78, Go.Operand.tmp 84], argTypes := #[130, 130] }, type := 130, pos := "ref.go:63", after := #[{ on := 12, ground := Go.Ground.data }, { on := 18, ground := Go.Ground.data }, { on := 12, ground := Go.Ground.chain }], guard := none }) rfl (fun K hK => ?_) ?_
            refine step_append_src rfl (.tmp 78) (.tmp 84) 130 rfl w3.heap.size 135 i0 (.agg #[.int .i64 0, .int .u32 0, .int .i64 0, .bool false, .bool false]) 5 32 Tryz.underlying130 HI.out.1 HI.out.2.1 HI.out.2.2.1 HI.out.2.2.2 rfl (by decide) v5 (l.length + 1) _ rfl HP2.out.1 0 ([]) (.slice (if cp = l.length then some ⟨g, 0, none⟩ else some ⟨g, l.length * 5, none⟩) 0 (cp - l.length)) rfl src_zero (fun x hx => T3.out.2.2 x (by simp at hx)) (by unfold maxLen; omega) (by omega) HP2.out.2.size ?_
            intro v6 w6 hown6 hg6
            obtain ⟨ad6, cp6, rfl, hnc6⟩ := own_form' hown6
            clear hnc6
            have HP3 := Lib.hid (And.intro hown6 (Fr.grown (S := []) (a := w3) (by (repeat (first | (with_reducible exact Fr.refl _ _) | (with_reducible assumption) | (with_reducible refine Fr.drew ?_) | (with_reducible refine Fr.drewN ?_ _) | (with_reducible refine Fr.alloc ?_ _) | (with_reducible refine Fr.mput ?_ _ _ _ (.inl (by simp))) | (with_reducible refine Fr.mdel ?_ _ _ (.inl (by simp))) | (with_reducible refine Fr.set ?_ _ _ (.inr (by first | omega | (dsimp only; omega)))) | (with_reducible refine Fr.set ?_ _ _ (.inl (by simp)))))) hg6 (fun k hk => .inr (own_base HP2.out.1 k hk))))
            clear hown6 hg6
            refine hK.out _ _ ?_ (fun hSn => ?_)
            · exact HP3.out.2
            clear hK K hS
            have hS := hSn
            clear hSn
            (try simp only [Act.put, List.setIfInBounds_toArray, List.set_cons_zero, List.set_cons_succ])
            refine wpAnyZ_take (i := 20) (oi := { dst := some 86, op := Go.Op.nilCheck (Go.Operand.tmp 66), type := 0, pos := "ref.go:63", after := #[{ on := 0, ground := Go.Ground.data }, { on := 0, ground := Go.Ground.phase }, { on := 1, ground := Go.Ground.phase }, { on := 2, ground := Go.Ground.phase }, { on := 3, ground := Go.Ground.phase }, { on := 4, ground := Go.Ground.phase }, { on := 5, ground := Go.Ground.phase }, { on := 6, ground := Go.Ground.phase }, { on := 7, ground := Go.Ground.phase }, { on := 8, ground := Go.Ground.phase }, { on := 9, ground := Go.Ground.phase }, { on := 10, ground := Go.Ground.phase }, { on := 11, ground := Go.Ground.phase }, { on := 12, ground := Go.Ground.phase }, { on := 13, ground := Go.Ground.phase }, { on := 14, ground := Go.Ground.phase }, { on := 15, ground := Go.Ground.phase }, { on := 16, ground := Go.Ground.phase }, { on := 17, ground := Go.Ground.phase }, { on := 18, ground := Go.Ground.phase }, { on := 19, ground := Go.Ground.phase }], guard := none }) (v := _) rfl (by kernel_rfl) (by kernel_rfl) (by kernel_rfl) (by kernel_rfl) (by kernel_rfl) (fun _ _ _ h => h) (Or.inl ⟨by rfl, by (intro w' hSw; (try dsimp only at hSw); go_simp); (try (with_reducible rfl))⟩) (by assumption) ?_
            simp only [Act.put, List.setIfInBounds_toArray, List.set_cons_zero, List.set_cons_succ]
            refine wpAnyZ_take (i := 21) (oi := { dst := some 87, op := Go.Op.fieldAddr 132 (Go.Operand.tmp 86) 1, type := 0, pos := "ref.go:63", after := #[{ on := 20, ground := Go.Ground.data }, { on := 0, ground := Go.Ground.phase }, { on := 1, ground := Go.Ground.phase }, { on := 2, ground := Go.Ground.phase }, { on := 3, ground := Go.Ground.phase }, { on := 4, ground := Go.Ground.phase }, { on := 5, ground := Go.Ground.phase }, { on := 6, ground := Go.Ground.phase }, { on := 7, ground := Go.Ground.phase }, { on := 8, ground := Go.Ground.phase }, { on := 9, ground := Go.Ground.phase }, { on := 10, ground := Go.Ground.phase }, { on := 11, ground := Go.Ground.phase }, { on := 12, ground := Go.Ground.phase }, { on := 13, ground := Go.Ground.phase }, { on := 14, ground := Go.Ground.phase }, { on := 15, ground := Go.Ground.phase }, { on := 16, ground := Go.Ground.phase }, { on := 17, ground := Go.Ground.phase }, { on := 18, ground := Go.Ground.phase }, { on := 19, ground := Go.Ground.phase }], guard := none }) (v := _) rfl (by kernel_rfl) (by kernel_rfl) (by kernel_rfl) (by kernel_rfl) (by kernel_rfl) (fun _ _ _ h => h) (Or.inl ⟨by rfl, by (intro w' hSw; (try dsimp only at hSw); go_simp); (try (with_reducible rfl))⟩) (by assumption) ?_
            simp only [Act.put, List.setIfInBounds_toArray, List.set_cons_zero, List.set_cons_succ]
            refine wpAnyZ_ready (rs := [22]) (by kernel_rfl) (by simp) ?_
            refine ZedOne.last (o := { dst := none, op := Go.Op.store 130 (Go.Operand.tmp 87) (Go.Operand.tmp 85), type := 0, pos := "ref.go:63", after := #[{ on := 21, ground := Go.Ground.data }, { on := 19, ground := Go.Ground.data }, { on := 19, ground := Go.Ground.chain }, { on := 0, ground := Go.Ground.phase }, { on := 1, ground := Go.Ground.phase }, { on := 2, ground := Go.Ground.phase }, { on := 3, ground := Go.Ground.phase }, { on := 4, ground := Go.Ground.phase }, { on := 5, ground := Go.Ground.phase }, { on := 6, ground := Go.Ground.phase }, { on := 7, ground := Go.Ground.phase }, { on := 8, ground := Go.Ground.phase }, { on := 9, ground := Go.Ground.phase }, { on := 10, ground := Go.Ground.phase }, { on := 11, ground := Go.Ground.phase }, { on := 12, ground := Go.Ground.phase }, { on := 13, ground := Go.Ground.phase }, { on := 14, ground := Go.Ground.phase }, { on := 15, ground := Go.Ground.phase }, { on := 16, ground := Go.Ground.phase }, { on := 17, ground := Go.Ground.phase }, { on := 18, ground := Go.Ground.phase }, { on := 19, ground := Go.Ground.phase }], guard := none }) rfl (fun K hK => ?_)
            have u5 := (hS.cell (a := ⟨q, 1, none⟩) lq3 (by simp)).trans d3
            have u6 := (hS.free (a := ⟨q, 1, none⟩) lq3 (by simp)).trans f3
            go_simp
            refine hK.out _ _ ?_
            clear hK K hS
            (try simp only [Act.put, List.setIfInBounds_toArray, List.set_cons_zero, List.set_cons_succ])
            refine wpAnyZ_done (by kernel_rfl) ?_ _
            rotate_left 1
            exact ZedOne.nil
            exact ZedOne.nil
            exact ZedOne.nil
            exact ZedOne.nil
            exact ZedOne.nil
            all_goals go_wp2
            all_goals go_returns
            all_goals have hcut := qcut_all ⟨id, addr, c, false, false⟩ HP3.out.1
            all_goals exact qadd_done hql T3.out.1 T3.out.2.1 hcut.1 (by rw [hcut.2]; omega) HP3.out.2
end Go.Proofs.YthahlimmmnmniaaGreatDoor
