/- score.seats, score.Pick: the one of the greatest score among backends that all have a weight. score.Pick. The siblings: able, Best. balance.Would's three rules. balance.Would's second rule. balance.Would's third rule. balance.first over the three rules. balance.Would. balance.Decide. The tables of a world, the program's and the document's, side by side in memory. The tables side by side: what each call leaves of all of them. balance.Text at the verdicts of the document's example. What a world of the law is, and the tables that are made of it. -/
import Derived.Deep.RegionHeld3
import Derived.LoopN
import Derived.Test.YthahlimmmnmniaaGreatDoorR04
import Derived.Test.YthahlimmmnmniaaGreatDoorR08
import Derived.Test.YthahlimmmnmniaaGreatDoorR09
import Derived.Test.YthahlimmmnmniaaGreatDoorR11
import Derived.Test.YthahlimmmnmniaaGreatDoorR13
import Derived.Test.YthahlimmmnmniaaGreatDoorR15
import Derived.Test.YthahlimmmnmniaaGreatDoorR19
import Derived.Test.YthahlimmmnmniaaGreatDoorR20
import Derived.Test.YthahlimmmnmniaaGreatDoorR21
namespace Go.Proofs.YthahlimmmnmniaaGreatDoor
open Go.RowKit Go.Fw Go.Sort

theorem score_int (k id n : Int) (h0 : 0 ≤ n) (h1 : n ≤ 100) (w : World) : Calls Tryz.prog 90 #[.int .u64 k, .int .i64 id, .int .i64 n] w fun en w' => en = .returned (.int .u64 (score k id n)) ∧ Fr [] w w' := by
  obtain ⟨m, rfl⟩ := Int.eq_ofNat_of_zero_le h0
  exact score_any k id m (by omega) w
theorem rscore_int (k id n : Int) (h0 : 0 ≤ n) (h1 : n ≤ 100) (w : World) : Calls Tryz.prog 15 #[.int .u64 k, .int .i64 id, .int .i64 n] w fun en w' => en = .returned (.int .u64 (score k id n)) ∧ w = w' := by
  obtain ⟨m, rfl⟩ := Int.eq_ofNat_of_zero_le h0
  exact rscore_any k id m (by omega) w

/-- The first k backends' seats. -/
def seatsTo (f : Flow) (l : List Mem) (k : Nat) : List (Int × Int × Int) := (l.take k).zipIdx.map fun p => ((p.2 : Int), p.1.id, score (key f) p.1.id p.1.weight)
theorem seatsTo_succ {f : Flow} {l : List Mem} {k : Nat} {m : Mem} (h : l[k]? = some m) : seatsTo f l (k + 1) = seatsTo f l k ++ [((k : Int), m.id, score (key f) m.id m.weight)] := by
  have hl := (List.getElem?_eq_some_iff.1 h).1
  unfold seatsTo
  rw [List.take_add_one, h]
  simp [List.zipIdx_append, Nat.min_eq_left (Nat.le_of_lt hl)]
theorem seatsTo_len {f : Flow} {l : List Mem} {k : Nat} (h : k ≤ l.length) : (seatsTo f l k).length = k := by
  simp [seatsTo, h]
theorem seats_mem {f : Flow} {l : List Mem} {x : Int × Int × Int} : x ∈ seatsTo f l l.length ↔ ∃ (i : Nat) (m : Mem), l[i]? = some m ∧ x = ((i : Int), m.id, score (key f) m.id m.weight) := by
  unfold seatsTo
  rw [List.take_length, List.mem_map]
  constructor
  · rintro ⟨p, hp, rfl⟩
    exact ⟨p.2, p.1, List.mem_zipIdx_iff_getElem?.1 hp, rfl⟩
  · rintro ⟨i, m, hm, rfl⟩
    exact ⟨(m, i), List.mem_zipIdx_iff_getElem?.2 hm, rfl⟩

theorem info_seat : (Tryz.prog.info? 150).map (fun i => (i.zero, i.size, i.bytes)) = some (some (.agg #[.int .i64 0, .int .i64 0, .int .u64 0]), 3, 24) := by kernel_rfl

def SeatsRel (f : Flow) (l : List Mem) (w1 : World) (n : Nat) (out i : Value) (wr : World) : Prop :=
  ∃ k : Nat, k ≤ n ∧ i = .int .i64 k ∧ wr.ownsRow w1.heap.size 150 3 out (seatsTo f l k).length ((seatsTo f l k).flatMap encSeat) ∧ Fr [] w1 wr

/-- What seats leaves: the first one of a row that is there, if any. -/
def SeatsPost (f : Flow) (l : List Mem) (w : World) (en : Ending) (w' : World) : Prop :=
  ∃ ad cp, en = .returned (.slice ad l.length cp) ∧ Fr [] w w' ∧ (l ≠ [] → ∃ (g i : Nat) (m : Mem), ad = some ⟨g, 0, none⟩ ∧ w.heap.size ≤ g ∧ 0 < cp ∧ l[i]? = some m ∧ (∀ y ∈ l, score (key f) y.id y.weight ≤ score (key f) m.id m.weight) ∧ w'.cell? ⟨g, 0, none⟩ = some (.int .i64 i))

set_option maxHeartbeats 2000000 in
theorem seats_any {w : World} {base n : Nat} {v : Value} (f : Flow) (l : List Mem) (hn : l.length = n) (hn16 : n ≤ 16) (hown : w.ownsRow base 56 3 v n (l.flatMap bcells)) (hw : ∀ m ∈ l, 0 < m.weight ∧ m.weight ≤ 100) :
    Calls Tryz.prog 76 #[.agg #[.int .i64 f.proto, .int .u32 f.src, .int .u32 f.dst, .int .i64 f.sport, .int .i64 f.dport], v] w (SeatsPost f l w) := by
  obtain ⟨i0, hi, hz0, hz1, hz2⟩ := info_parts info_seat
  obtain ⟨ad, cp, rfl, hnc, hcells⟩ := own_form hown
  have HI := Lib.hid (And.intro hi (And.intro hz0 (And.intro hz1 hz2)))
  have HC := Lib.hid (And.intro hn (And.intro hnc (And.intro hcells (And.intro hw hown))))
  clear hi hz0 hz1 hz2 hn hnc hcells hw hown
  go_enter Tryz.func76, Tryz.ntmps76
  go_wp2_with fail
  refine (key_any f _).mono ?_
  rintro en w1 ⟨rfl, hfr1⟩
  have hF := ((Fr.refl [] w).alloc _).trans hfr1 (by simp)
  have HF := Lib.hid hF
  clear hfr1 hF
  generalize hK : key f = kf
  have HK := Lib.hid hK
  clear hK
  go_wp2
  go_loopw [6, 13] (fun out i wr => SeatsRel f l w1 n out i wr) (fun _ i _ => n - (intOf i).toNat)
  case atStart => exact ⟨0, Nat.zero_le _, rfl, ⟨rfl, .inl ⟨rfl, rfl⟩⟩, Fr.refl _ _⟩
  case round =>
    obtain ⟨j, hj, rfl, hown, hfr⟩ := hrel
    obtain ⟨hn, hnc, hcells, hw, _⟩ := HC.out
    by_cases hlt : j < n
    · obtain ⟨g, rfl, hgb, hg, hcell⟩ := hcells (by omega)
      obtain ⟨m, hm⟩ : ∃ m, l[j]? = some m := ⟨l[j], List.getElem?_eq_getElem (by omega)⟩
      obtain ⟨w0, w100⟩ := hw m (List.mem_of_getElem? hm)
      have hF := HF.out.trans hfr (by simp)
      have k0 : wr.cell? ⟨g, j * 3, none⟩ = some (.int .i64 m.id) := (hF.cell (a := ⟨g, j * 3 + 0, none⟩) hg (by simp)).trans (hcell _ _ (flat_at (k := 3) (fun _ => rfl) hm (t := 0) (u := .int .i64 m.id) rfl))
      have k1 := (hF.cell (a := ⟨g, j * 3 + 1, none⟩) hg (by simp)).trans (hcell _ _ (flat_at (k := 3) (fun _ => rfl) hm (t := 1) (u := .int .u32 m.addr) rfl))
      have k2 := (hF.cell (a := ⟨g, j * 3 + 2, none⟩) hg (by simp)).trans (hcell _ _ (flat_at (k := 3) (fun _ => rfl) hm (t := 2) (u := .int .i64 m.weight) rfl))
      have hsucc := seatsTo_succ (f := f) hm
      rw [HK.out] at hsucc
      have hlj := seatsTo_len (f := f) (l := l) (k := j) (by omega)
      have hbase := hfr.size
      have j0 : (0 : Int) ≤ j := by omega
      have j1 : (j : Int) < n := by omega
      have hcap : n ≤ cp := by omega
      have hg' : g < wr.heap.size := Nat.lt_of_lt_of_le hg hF.size
      obtain ⟨hi, hz0, hz1, hz2⟩ := HI.out
      have HX := Lib.hid (And.intro hF (And.intro hfr (And.intro hsucc (And.intro hown (And.intro hlj (And.intro hi (And.intro hz0 (And.intro hz1 hz2))))))))
      clear hF hfr hsucc hown hlj hm hcell hcells hnc hn hw hi hz0 hz1 hz2
      go_wp2
      go_region_held3 (fun w' => w'.cell? ⟨wr.heap.size, 0, none⟩ = some (.int .i64 m.id) ∧ w'.cell? ⟨wr.heap.size, 2, none⟩ = some (.int .i64 m.weight)) (go_keep) ((first
        | (go_at_call 90; refine (score_int _ _ _ (by omega) w100 _).mono ?_; rintro en w3 ⟨rfl, hfr3⟩; (have s0 : w3.cell? ⟨wr.heap.size, 0, none⟩ = some (.int .i64 m.id) := (hfr3.cell (by simp) (by simp)).trans (by go_simp)); (have s2 : w3.cell? ⟨wr.heap.size, 2, none⟩ = some (.int .i64 m.weight) := (hfr3.cell (by simp) (by simp)).trans (by go_simp)); (have hF3 := Fr.trans (S := []) (a := wr) (by (repeat (first | (with_reducible exact Fr.refl _ _) | (with_reducible assumption) | (with_reducible refine Fr.drew ?_) | (with_reducible refine Fr.drewN ?_ _) | (with_reducible refine Fr.alloc ?_ _) | (with_reducible refine Fr.mput ?_ _ _ _ (.inl (by simp))) | (with_reducible refine Fr.mdel ?_ _ _ (.inl (by simp))) | (with_reducible refine Fr.set ?_ _ _ (.inr (by first | omega | (dsimp only; omega)))) | (with_reducible refine Fr.set ?_ _ _ (.inl (by simp)))))) hfr3 (by simp)); (have HF3 := Lib.hid hF3); (have hsz3 : wr.heap.size < w3.heap.size := Nat.lt_of_lt_of_le (by simp) hfr3.size); clear hF3 hfr3)
        | ((have _h3 := HF3); clear _h3; refine step_append_own rfl (.tmp 21) (.tmp 32) 147 rfl w1.heap.size 150 i0 (.agg #[.int .i64 0, .int .i64 0, .int .u64 0]) 3 24 Tryz.underlying147 HX.out.2.2.2.2.2.1 HX.out.2.2.2.2.2.2.1 HX.out.2.2.2.2.2.2.2.1 HX.out.2.2.2.2.2.2.2.2 rfl (by decide) _ (seatsTo f l j).length _ (by simp [Act.eval, Act.put]) (own_fr HX.out.2.2.2.1 (HF3.out.alloc _) (by simp)) ⟨w3.heap.size, 0, none⟩ 1 1 [.int .i64 j, .int .i64 m.id, .int .u64 (score kf m.id m.weight)] (by simp [Act.eval, Act.put]) rfl (fun j u h => news_new _ _ _ _ _ h) (by intro u hu; simp at hu; rcases hu with rfl | rfl | rfl <;> rfl) (by rw [HX.out.2.2.2.2.1]; unfold maxLen; omega) (by rw [HX.out.2.2.2.2.1]; omega) (Nat.le_trans hbase (Nat.le_trans HF3.out.size (by simp))) ?_; intro v' w5 hown' hgrow; (have q0 : w5.cell? ⟨wr.heap.size, 0, none⟩ = some (.int .i64 m.id) := grown_cell HX.out.2.2.2.1 hgrow (Nat.le_refl _) (by simp; omega) (by go_simp)); (have q2 : w5.cell? ⟨wr.heap.size, 2, none⟩ = some (.int .i64 m.weight) := grown_cell HX.out.2.2.2.1 hgrow (Nat.le_refl _) (by simp; omega) (by go_simp)); (have HZ := Lib.hid (And.intro hown' hgrow)); clear hown' hgrow)))
      all_goals go_wp2
      go_roundw
      all_goals obtain ⟨hF, hfr, hsucc, hown, hlj, _⟩ := HX.out
      · obtain ⟨hown', hgrow⟩ := HZ.out
        refine ⟨j + 1, by omega, by go_num, ?_, ?_⟩
        · rw [hsucc]
          simpa [List.flatMap_append, encSeat] using hown'
        · exact ((hfr.trans HF3.out (by simp)).alloc _).grown hgrow (fun k hk => .inr (own_base hown k hk))
      · simp [intOf]; omega
    · obtain rfl : j = n := by omega
      have hlj := seatsTo_len (f := f) (l := l) (k := j) (by omega)
      obtain ⟨ad2, cp2, rfl, hnc2, hcells2⟩ := own_form hown
      have hs := sortSeat_any hown (by omega)
      rw [hlj] at hs ⊢
      have HX := Lib.hid (And.intro hn (And.intro hfr (And.intro hown (And.intro hw (And.intro hlj hs)))))
      clear hn hfr hown hw hlj hnc2 hcells2 hnc hcells hs
      go_wp2_with fail
      refine HX.out.2.2.2.2.2.mono ?_
      rintro en w5 ⟨rfl, S, hS, hfr5, hhead⟩
      have HH := Lib.hid (And.intro hS (And.intro hfr5 hhead))
      clear hS hfr5 hhead
      go_wp2
      go_returns
      obtain ⟨hn, hfr, hown, hw, hlj, _⟩ := HX.out
      obtain ⟨hS, hfr5, hhead⟩ := HH.out
      have hb := own_base hown
      refine ⟨ad2, cp2, by rw [hn]; rfl, ?_, fun hne => ?_⟩
      · exact ((HF.out.trans hfr (by simp)).trans hfr5 (S' := S) (fun x hx => .inr (Nat.le_trans HF.out.size (hb x (by rw [hlj]; exact hS x hx)))))
      · obtain ⟨g, cap, x, he, hgl, hx, hmin, hc⟩ := hhead (by intro h0; rw [h0] at hlj; simp at hlj; exact hne (List.length_eq_zero_iff.1 (by omega)))
        rw [← hn] at hx
        obtain ⟨i, m, hm, rfl⟩ := seats_mem.1 hx
        rw [hlj] at he
        obtain ⟨rfl, rfl⟩ : ad2 = some ⟨g, 0, none⟩ ∧ cp2 = cap := by simpa using he
        refine ⟨g, i, m, rfl, ?_, ?_, hm, fun y hy => ?_, hc 0 _ rfl⟩
        · exact Nat.le_trans HF.out.size (hb g rfl)
        · rw [hlj] at hown
          have h0l : 0 < l.length := List.length_pos_iff.2 hne
          rcases hown.2 with ⟨h0, _⟩ | ⟨g', cap', cur, h0, _, _, h1, _⟩
          · cases h0
          · cases h0
            omega
        · obtain ⟨t, ht⟩ := List.mem_iff_getElem?.1 hy
          have h1 := hmin ((t : Int), y.id, score (key f) y.id y.weight) (by rw [← hn]; exact seats_mem.2 ⟨t, y, ht, rfl⟩)
          rw [← Bool.not_eq_true, ltSeat] at h1
          simp only at h1
          omega
end Go.Proofs.YthahlimmmnmniaaGreatDoor

namespace Go.Proofs.YthahlimmmnmniaaGreatDoor
open Go.RowKit Go.Fw Go.Sort

/-- What Pick answers: nothing, or one of the list that none has a greater score than. -/
def PickPost (f : Flow) (l : List Mem) (w : World) (en : Ending) (w' : World) : Prop :=
  Fr [] w w' ∧ ((l = [] ∧ en = .returned (.tuple #[.agg #[.int .i64 0, .int .u32 0, .int .i64 0], .bool false])) ∨
    ∃ m ∈ l, (∀ y ∈ l, score (key f) y.id y.weight ≤ score (key f) m.id m.weight) ∧ en = .returned (.tuple #[.agg #[.int .i64 m.id, .int .u32 m.addr, .int .i64 m.weight], .bool true]))

set_option maxHeartbeats 2000000 in
theorem pick_any {w : World} {base n : Nat} {v : Value} (f : Flow) (l : List Mem) (hn : l.length = n) (hn16 : n ≤ 16) (hown : w.ownsRow base 56 3 v n (l.flatMap bcells)) (hw : ∀ m ∈ l, 0 < m.weight ∧ m.weight ≤ 100) :
    Calls Tryz.prog 39 #[.agg #[.int .i64 f.proto, .int .u32 f.src, .int .u32 f.dst, .int .i64 f.sport, .int .i64 f.dport], v] w (PickPost f l w) := by
  have hs := fun (W : World) (h : W.ownsRow base 56 3 v n (l.flatMap bcells)) => seats_any f l hn hn16 h hw
  have hown' := fun o o' => own_fr hown (((Fr.refl [] w).alloc o).alloc o') (by simp)
  obtain ⟨ad, cp, rfl, hnc, hcells⟩ := own_form hown
  have HC := Lib.hid (And.intro hn (And.intro hnc (And.intro hcells (And.intro hw (And.intro hown' hs)))))
  clear hn hnc hcells hw hown hown' hs
  go_enter Tryz.func39, Tryz.ntmps39
  go_wp2_with fail
  refine (HC.out.2.2.2.2.2 _ (HC.out.2.2.2.2.1 _ _)).mono ?_
  rintro en w1 ⟨ad1, cp1, rfl, hfr1, hhead⟩
  obtain ⟨hn, hnc, hcells, hw, _⟩ := HC.out
  have hF := Fr.trans (S := []) (a := w) (by (repeat (first | (with_reducible exact Fr.refl _ _) | (with_reducible assumption) | (with_reducible refine Fr.drew ?_) | (with_reducible refine Fr.drewN ?_ _) | (with_reducible refine Fr.alloc ?_ _) | (with_reducible refine Fr.mput ?_ _ _ _ (.inl (by simp))) | (with_reducible refine Fr.mdel ?_ _ _ (.inl (by simp))) | (with_reducible refine Fr.set ?_ _ _ (.inr (by first | omega | (dsimp only; omega)))) | (with_reducible refine Fr.set ?_ _ _ (.inl (by simp)))))) hfr1 (by simp)
  have hB := hfr1.keep (k := w.heap.size + 1) (o := .cells #[.int .i64 0, .int .u32 0, .int .i64 0] 56 (0, 0)) (by rw [heap_alloc_if, if_pos (by simp)]) (by simp)
  obtain ⟨⟨z0, z1, z2⟩, f0, f1, f2⟩ := backend_cells hB
  have hsz := lt_of hB
  rcases Nat.eq_zero_or_pos n with h0 | h0
  · have hnil : l = [] := List.length_eq_zero_iff.1 (by omega)
    have hl0 : ((l.length : Nat) : Int) = 0 := by rw [hnil]; rfl
    subst h0
    have HX := Lib.hid (And.intro hF (And.intro hB hnil))
    clear hF hB hnil hhead hcells hw hfr1 hnc hn
    go_wp2
    refine bodyPost_ret (v := .tuple #[.agg #[.int .i64 0, .int .u32 0, .int .i64 0], .bool false]) (by simp [results, Tryz.results39, go_sem, z0, z1, z2, hsz]) rfl ?_
    obtain ⟨hF, hB, hnil⟩ := HX.out
    exact ⟨by (repeat (first | (with_reducible exact Fr.refl _ _) | (with_reducible assumption) | (with_reducible refine Fr.drew ?_) | (with_reducible refine Fr.drewN ?_ _) | (with_reducible refine Fr.alloc ?_ _) | (with_reducible refine Fr.mput ?_ _ _ _ (.inl (by simp))) | (with_reducible refine Fr.mdel ?_ _ _ (.inl (by simp))) | (with_reducible refine Fr.set ?_ _ _ (.inr (by first | omega | (dsimp only; omega)))) | (with_reducible refine Fr.set ?_ _ _ (.inl (by simp))))), .inl ⟨hnil, rfl⟩⟩
  · obtain ⟨g, rfl, hgb, hg, hcell⟩ := hcells h0
    obtain ⟨g1, i, m, rfl, hg1, hcp1, hm, hmax, hc1⟩ := hhead (by intro h; rw [h] at hn; simp at hn; omega)
    have hil := (List.getElem?_eq_some_iff.1 hm).1
    have hmm := List.mem_of_getElem? hm
    have k0 : w1.cell? ⟨g, i * 3, none⟩ = some (.int .i64 m.id) := (hF.cell (a := ⟨g, i * 3 + 0, none⟩) hg (by simp)).trans (hcell _ _ (flat_at (k := 3) (fun _ => rfl) hm (t := 0) (u := .int .i64 m.id) rfl))
    have k1 := (hF.cell (a := ⟨g, i * 3 + 1, none⟩) hg (by simp)).trans (hcell _ _ (flat_at (k := 3) (fun _ => rfl) hm (t := 1) (u := .int .u32 m.addr) rfl))
    have k2 := (hF.cell (a := ⟨g, i * 3 + 2, none⟩) hg (by simp)).trans (hcell _ _ (flat_at (k := 3) (fun _ => rfl) hm (t := 2) (u := .int .i64 m.weight) rfl))
    have hg' : g < w1.heap.size := Nat.lt_of_lt_of_le hg hF.size
    obtain ⟨q, hq⟩ : ∃ q, l.length = q := ⟨_, rfl⟩
    obtain rfl : n = q := by omega
    rw [hq] at hil ⊢
    have j0 : (0 : Int) ≤ i := by omega
    have j1 : (i : Int) < n := by omega
    have n0 : ¬ ((n : Int) = 0) := by omega
    have hcap : n ≤ cp := by omega
    have HX := Lib.hid (And.intro hF (And.intro hB (And.intro hmm hmax)))
    clear hF hB hhead hcells hw hfr1 hnc hn hmm hmax hm hcell hq
    go_wp2
    refine bodyPost_ret (v := .tuple #[.agg #[.int .i64 m.id, .int .u32 m.addr, .int .i64 m.weight], .bool true]) (by simp [results, Tryz.results39, go_sem, z0, z1, z2, hsz]) rfl ?_
    obtain ⟨hF, hB, hmm, hmax⟩ := HX.out
    exact ⟨by (repeat (first | (with_reducible exact Fr.refl _ _) | (with_reducible assumption) | (with_reducible refine Fr.drew ?_) | (with_reducible refine Fr.drewN ?_ _) | (with_reducible refine Fr.alloc ?_ _) | (with_reducible refine Fr.mput ?_ _ _ _ (.inl (by simp))) | (with_reducible refine Fr.mdel ?_ _ _ (.inl (by simp))) | (with_reducible refine Fr.set ?_ _ _ (.inr (by first | omega | (dsimp only; omega)))) | (with_reducible refine Fr.set ?_ _ _ (.inl (by simp))))), .inr ⟨m, hmm, hmax, rfl⟩⟩
end Go.Proofs.YthahlimmmnmniaaGreatDoor

namespace Go.Proofs.YthahlimmmnmniaaGreatDoor
open Go.RowKit Go.Fw Go.Sort

/-- Those that can take something now, by their numbers. -/
def ableTo (T : SibT) (now : Int) (k : Nat) : List (Int × Int × Int) := ((sitesOf T).take k).filter fun x => decide (0 < capOf T x.1 now)
def ableL (T : SibT) (now : Int) : List (Int × Int × Int) := (sitesOf T).filter fun x => decide (0 < capOf T x.1 now)

theorem ableTo_succ {T : SibT} {now : Int} {k : Nat} {x : Int × Int × Int} (h : (sitesOf T)[k]? = some x) : ableTo T now (k + 1) = ableTo T now k ++ (if 0 < capOf T x.1 now then [x] else []) := by
  unfold ableTo
  rw [List.take_add_one, h]
  simp only [Option.toList_some, List.filter_append, List.filter_cons, List.filter_nil, decide_eq_true_eq]
theorem ableTo_all {T : SibT} {now : Int} : ableTo T now (sitesOf T).length = ableL T now := by
  unfold ableTo ableL
  rw [List.take_length]
theorem ableTo_len (T : SibT) (now : Int) (k : Nat) : (ableTo T now k).length ≤ k := by
  unfold ableTo
  refine Nat.le_trans (List.length_filter_le _ _) ?_
  exact List.length_take_le _ _

def AblePost (T : SibT) (now : Int) (w : World) (en : Ending) (w' : World) : Prop :=
  ∃ ad cp, en = .returned (.slice ad (ableL T now).length cp) ∧ Fr [] w w' ∧ (ableL T now ≠ [] → ∃ (g : Nat) (x : Int × Int × Int), ad = some ⟨g, 0, none⟩ ∧ g < w'.heap.size ∧ 0 < cp ∧ x ∈ ableL T now ∧ (∀ y ∈ ableL T now, ltOf cmpSite y x = false) ∧
    w'.cell? ⟨g, 0, none⟩ = some (.int .i64 x.1) ∧ w'.cell? ⟨g, 1, none⟩ = some (.int .u32 x.2.1) ∧ w'.cell? ⟨g, 2, none⟩ = some (.int .i64 x.2.2))

def AbleRel (T : SibT) (now : Int) (w1 : World) (n : Nat) (l i : Value) (wr : World) : Prop :=
  ∃ k : Nat, k ≤ n ∧ i = .int .i64 k ∧ wr.ownsRow w1.heap.size 62 3 l (ableTo T now k).length ((ableTo T now k).flatMap encSite) ∧ Fr [] w1 wr

set_option maxHeartbeats 2000000 in
theorem able_any {w : World} {s sm rm : Nat} {T : SibT} (h : SibAt w s sm rm T) (ok : SOk T) (now : Int) :
    Calls Tryz.prog 53 #[.pointer (some ⟨s, 0, none⟩), .int .i64 now] w (AblePost T now w) := by
  obtain ⟨i0, hi, hz0, hz1, hz2⟩ := info_parts info_site
  have hkl : (sitesOf T).length ≤ 8 := by unfold sitesOf keysOf; rw [List.length_map, List.length_mergeSort, List.length_map]; exact ok.1
  have hall := sall_any h ok
  have HO := Lib.hid (And.intro hkl hall)
  have HI := Lib.hid (And.intro hi (And.intro hz0 (And.intro hz1 hz2)))
  clear hkl hi hz0 hz1 hz2 hall
  go_enter Tryz.func53, Tryz.ntmps53
  go_wp2_with fail
  refine HO.out.2.mono ?_
  rintro en w1 ⟨v, rfl, hrow, hfr⟩
  have hF := hfr
  have hT1 := h.fr hF (by simp) (by simp) (by simp)
  obtain ⟨n, hn⟩ : ∃ n, (sitesOf T).length = n := ⟨_, rfl⟩
  have hkl := HO.out.1
  have hnk : n ≤ 8 := by omega
  rw [hn] at hrow
  obtain ⟨ad, cp, rfl, hnc, hkc⟩ := own_form hrow
  have HK := Lib.hid (And.intro hn (And.intro hnc hkc))
  have HF := Lib.hid (And.intro hF hT1)
  clear hn hrow hkc hfr hF hT1 hnc
  go_wp2
  go_loopw [5, 12] (fun l i wr => AbleRel T now w1 n l i wr) (fun _ i _ => n - (intOf i).toNat)
  case atStart => exact ⟨0, Nat.zero_le _, rfl, ⟨rfl, .inl ⟨rfl, rfl⟩⟩, Fr.refl _ _⟩
  case round =>
    obtain ⟨j, hj, rfl, hown, hfr⟩ := hrel
    obtain ⟨hn, hnc, hkc⟩ := HK.out
    obtain ⟨hF, hT1⟩ := HF.out
    by_cases hlt : j < n
    · obtain ⟨g, rfl, hgb, hg, hcell⟩ := hkc (by omega)
      obtain ⟨x, hx⟩ : ∃ x, (sitesOf T)[j]? = some x := ⟨(sitesOf T)[j], List.getElem?_eq_getElem (by omega)⟩
      have k0 : wr.cell? ⟨g, j * 3, none⟩ = some (.int .i64 x.1) := (hfr.cell (a := ⟨g, j * 3 + 0, none⟩) hg (by simp)).trans (hcell _ _ (flat_at (k := 3) (fun _ => rfl) hx (t := 0) (u := .int .i64 x.1) rfl))
      have k1 := (hfr.cell (a := ⟨g, j * 3 + 1, none⟩) hg (by simp)).trans (hcell _ _ (flat_at (k := 3) (fun _ => rfl) hx (t := 1) (u := .int .u32 x.2.1) rfl))
      have k2 := (hfr.cell (a := ⟨g, j * 3 + 2, none⟩) hg (by simp)).trans (hcell _ _ (flat_at (k := 3) (fun _ => rfl) hx (t := 2) (u := .int .i64 x.2.2) rfl))
      have hsucc := ableTo_succ (now := now) hx
      have hTr := hT1.fr hfr (by simp) (by simp) (by simp)
      have hcap := fun (W : World) (hW : Fr [] wr W) => cap_any (hTr.fr hW (by simp) (by simp) (by simp)) x.1 now
      have hlj := ableTo_len T now j
      have j0 : (0 : Int) ≤ j := by omega
      have j1 : (j : Int) < n := by omega
      have hcp : n ≤ cp := by omega
      have hbase := hfr.size
      have hg' : g < wr.heap.size := Nat.lt_of_lt_of_le hg hfr.size
      obtain ⟨hi, hz0, hz1, hz2⟩ := HI.out
      have HX := Lib.hid (And.intro hfr (And.intro hsucc (And.intro hi (And.intro hz0 (And.intro hz1 (And.intro hz2 (And.intro hown hcap)))))))
      clear hfr hsucc hi hz0 hz1 hz2 hown hn hnc hkc hcell hx hF hT1 hTr hcap
      go_wp2_with fail
      refine (HX.out.2.2.2.2.2.2.2 _ ?_).mono ?_
      · (repeat (first | (with_reducible exact Fr.refl _ _) | (with_reducible assumption) | (with_reducible refine Fr.drew ?_) | (with_reducible refine Fr.drewN ?_ _) | (with_reducible refine Fr.alloc ?_ _) | (with_reducible refine Fr.mput ?_ _ _ _ (.inl (by simp))) | (with_reducible refine Fr.mdel ?_ _ _ (.inl (by simp))) | (with_reducible refine Fr.set ?_ _ _ (.inr (by first | omega | (dsimp only; omega)))) | (with_reducible refine Fr.set ?_ _ _ (.inl (by simp)))))
      rintro en w3 ⟨rfl, hfr3⟩
      have hM := hfr3.keep (k := wr.heap.size) (o := .cells #[.int .i64 x.1, .int .u32 x.2.1, .int .i64 x.2.2] 62 (0, 0)) (by rw [heap_alloc_if, if_pos (by simp)]) (by simp)
      have m0 := cell_at hM 0 (v := .int .i64 x.1) rfl
      have m1 := cell_at hM 1 (v := .int .u32 x.2.1) rfl
      have m2 := cell_at hM 2 (v := .int .i64 x.2.2) rfl
      have hF3 := Fr.trans (S := []) (a := wr) (by (repeat (first | (with_reducible exact Fr.refl _ _) | (with_reducible assumption) | (with_reducible refine Fr.drew ?_) | (with_reducible refine Fr.drewN ?_ _) | (with_reducible refine Fr.alloc ?_ _) | (with_reducible refine Fr.mput ?_ _ _ _ (.inl (by simp))) | (with_reducible refine Fr.mdel ?_ _ _ (.inl (by simp))) | (with_reducible refine Fr.set ?_ _ _ (.inr (by first | omega | (dsimp only; omega)))) | (with_reducible refine Fr.set ?_ _ _ (.inl (by simp)))))) hfr3 (by simp)
      clear hM hfr3
      obtain ⟨c, hc⟩ : ∃ c, capOf T x.1 now = c := ⟨_, rfl⟩
      rw [hc]
      by_cases hpos : 0 < c
      · have hown3 := fun o => own_fr HX.out.2.2.2.2.2.2.1 (hF3.alloc o) (by simp)
        have hb3 : w1.heap.size ≤ w3.heap.size := Nat.le_trans hbase hF3.size
        have HY := Lib.hid (And.intro hF3 (And.intro hown3 hc))
        clear hF3 hown3 hc
        go_wp2_with (at_builtin; refine wpList_append_own _ rfl _ _ 24 rfl w1.heap.size 62 i0 (.agg #[.int .i64 0, .int .u32 0, .int .i64 0]) 3 24 Tryz.underlying24 HX.out.2.2.1 HX.out.2.2.2.1 HX.out.2.2.2.2.1 HX.out.2.2.2.2.2.1 rfl (by decide) _ _ _ rfl (HY.out.2.1 _) ⟨w3.heap.size, 0, none⟩ 1 1 [.int .i64 x.1, .int .u32 x.2.1, .int .i64 x.2.2] rfl rfl ?c1 ?c2 ?c3 ?c4 ?c5 ?_)
        case c1 => exact news_new w3 [.int .i64 x.1, .int .u32 x.2.1, .int .i64 x.2.2] 62
        case c2 => intro u hu; simp at hu; rcases hu with rfl | rfl | rfl <;> rfl
        case c3 => unfold maxLen; omega
        case c4 => omega
        case c5 => simp; omega
        intro v' w5 hown' hgrow _
        have HZ := Lib.hid (And.intro hown' hgrow)
        clear hown' hgrow
        go_wp2
        go_roundw
        all_goals obtain ⟨hfr, hsucc, _, _, _, _, hown, _⟩ := HX.out
        · obtain ⟨hown', hgrow⟩ := HZ.out
          obtain ⟨hF3, hown3, hc⟩ := HY.out
          refine ⟨j + 1, by omega, by go_num, ?_, ?_⟩
          · rw [hsucc, hc, if_pos hpos]
            simpa [List.flatMap_append, encSite] using hown'
          · exact ((hfr.trans hF3 (by simp)).alloc _).grown hgrow (fun k hk => .inr (own_base hown k hk))
        · simp [intOf]; omega
      · have HY := Lib.hid (And.intro hF3 hc)
        clear hF3 hc
        go_wp2
        go_roundw
        all_goals obtain ⟨hfr, hsucc, _, _, _, _, hown, _⟩ := HX.out
        · obtain ⟨hF3, hc⟩ := HY.out
          refine ⟨j + 1, by omega, by go_num, ?_, hfr.trans hF3 (by simp)⟩
          rw [hsucc, hc, if_neg (by omega), List.append_nil]
          exact own_fr hown hF3 (by simp)
        · simp [intOf]; omega
    · obtain rfl : j = n := by omega
      have hall := ableTo_all (T := T) (now := now)
      rw [hn] at hall
      rw [hall] at hown
      have hl8 : (ableL T now).length ≤ 8 := by rw [← hall]; exact Nat.le_trans (ableTo_len _ _ _) (by omega)
      obtain ⟨ad2, cp2, rfl, hnc2, _⟩ := own_form hown
      have hs := sortSite_any hown (by omega)
      have HX := Lib.hid (And.intro hfr (And.intro hown (And.intro hF (And.intro hnc2 hs))))
      clear hown hfr hn hkc hF hT1 hall hnc2 hs hnc
      go_wp2_with fail
      refine HX.out.2.2.2.2.mono ?_
      rintro en w5 ⟨rfl, S, hS, hfr5, hhead⟩
      have HH := Lib.hid (And.intro hS (And.intro hfr5 hhead))
      clear hS hfr5 hhead
      go_wp2
      go_returns
      obtain ⟨hfr, hown, hF, hnc2, _⟩ := HX.out
      obtain ⟨hS, hfr5, hhead⟩ := HH.out
      have hb := own_base hown
      refine ⟨ad2, cp2, rfl, ?_, fun hne => ?_⟩
      · exact ((hF.trans hfr (by simp)).trans hfr5 (S' := S) (fun z hz => .inr (Nat.le_trans hF.size (hb z (hS z hz)))))
      · obtain ⟨g, cap, x, he, hgl, hx, hmin, hc⟩ := hhead hne
        obtain ⟨rfl, rfl⟩ : ad2 = some ⟨g, 0, none⟩ ∧ cp2 = cap := by simpa using he
        have : 0 < (ableL T now).length := List.length_pos_iff.2 hne
        exact ⟨g, x, rfl, hgl, by omega, hx, hmin, hc 0 _ rfl, hc 1 _ rfl, hc 2 _ rfl⟩

def BestPost (T : SibT) (now : Int) (w : World) (en : Ending) (w' : World) : Prop :=
  Fr [] w w' ∧ ((ableL T now = [] ∧ en = .returned (.tuple #[.agg #[.int .i64 0, .int .u32 0, .int .i64 0], .bool false])) ∨
    ∃ x ∈ ableL T now, (∀ y ∈ ableL T now, ltOf cmpSite y x = false) ∧ en = .returned (.tuple #[.agg #[.int .i64 x.1, .int .u32 x.2.1, .int .i64 x.2.2], .bool true]))

theorem site_cells {w : World} {b : Nat} {a1 a2 a3 : Value} (h : w.heap[b]? = some (.cells #[a1, a2, a3] 62 (0, 0))) :
    (w.cell? ⟨b, 0, none⟩ = some a1 ∧ w.cell? ⟨b, 1, none⟩ = some a2 ∧ w.cell? ⟨b, 2, none⟩ = some a3) ∧ (w.frozen? ⟨b, 0, none⟩ = false ∧ w.frozen? ⟨b, 1, none⟩ = false ∧ w.frozen? ⟨b, 2, none⟩ = false) :=
  ⟨⟨cell_at h 0 rfl, cell_at h 1 rfl, cell_at h 2 rfl⟩, free_at h 0, free_at h 1, free_at h 2⟩

set_option maxHeartbeats 1000000 in
theorem best_any {w : World} {s sm rm : Nat} {T : SibT} (h : SibAt w s sm rm T) (ok : SOk T) (now : Int) :
    Calls Tryz.prog 16 #[.pointer (some ⟨s, 0, none⟩), .int .i64 now] w (BestPost T now w) := by
  have ha := fun o => able_any (h.fr (S := []) ((Fr.refl [] w).alloc o) (by simp) (by simp) (by simp)) ok now
  have HA := Lib.hid ha
  clear ha
  go_enter Tryz.func16, Tryz.ntmps16
  go_wp2_with fail
  refine (HA.out _).mono ?_
  rintro en w1 ⟨ad, cp, rfl, hfr1, hhead⟩
  have hB := hfr1.keep (k := w.heap.size) (o := .cells #[.int .i64 0, .int .u32 0, .int .i64 0] 62 (0, 0)) (by rw [heap_alloc_if, if_pos (by simp)]) (by simp)
  obtain ⟨⟨z0, z1, z2⟩, f0, f1, f2⟩ := site_cells hB
  have hF := Fr.trans (S := []) (a := w) (by (repeat (first | (with_reducible exact Fr.refl _ _) | (with_reducible assumption) | (with_reducible refine Fr.drew ?_) | (with_reducible refine Fr.drewN ?_ _) | (with_reducible refine Fr.alloc ?_ _) | (with_reducible refine Fr.mput ?_ _ _ _ (.inl (by simp))) | (with_reducible refine Fr.mdel ?_ _ _ (.inl (by simp))) | (with_reducible refine Fr.set ?_ _ _ (.inr (by first | omega | (dsimp only; omega)))) | (with_reducible refine Fr.set ?_ _ _ (.inl (by simp)))))) hfr1 (by simp)
  have hsz := lt_of hB
  rcases Nat.eq_zero_or_pos (ableL T now).length with h0 | h0
  · have hnil : ableL T now = [] := List.length_eq_zero_iff.1 h0
    rw [hnil]
    have HX := Lib.hid (And.intro hF (And.intro hB hnil))
    clear hF hB hnil hhead hfr1 h0
    simp only [List.length_nil]
    go_wp2
    refine bodyPost_ret (v := .tuple #[.agg #[.int .i64 0, .int .u32 0, .int .i64 0], .bool false]) (by simp [results, Tryz.results16, go_sem, z0, z1, z2, hsz]) rfl ?_
    obtain ⟨hF, hB, hnil⟩ := HX.out
    exact ⟨by (repeat (first | (with_reducible exact Fr.refl _ _) | (with_reducible assumption) | (with_reducible refine Fr.drew ?_) | (with_reducible refine Fr.drewN ?_ _) | (with_reducible refine Fr.alloc ?_ _) | (with_reducible refine Fr.mput ?_ _ _ _ (.inl (by simp))) | (with_reducible refine Fr.mdel ?_ _ _ (.inl (by simp))) | (with_reducible refine Fr.set ?_ _ _ (.inr (by first | omega | (dsimp only; omega)))) | (with_reducible refine Fr.set ?_ _ _ (.inl (by simp))))), .inl ⟨hnil, rfl⟩⟩
  · obtain ⟨g, x, rfl, hg, hcp, hx, hmin, k0, k1, k2⟩ := hhead (List.length_pos_iff.1 h0)
    obtain ⟨q, hq⟩ : ∃ q, (ableL T now).length = q := ⟨_, rfl⟩
    rw [hq] at h0 ⊢
    have n0 : ¬ ((q : Int) = 0) := by omega
    have q0 : (0 : Int) < q := by omega
    have HX := Lib.hid (And.intro hF (And.intro hB (And.intro hx hmin)))
    clear hF hB hhead hfr1 hx hmin hq
    go_wp2
    refine bodyPost_ret (v := .tuple #[.agg #[.int .i64 x.1, .int .u32 x.2.1, .int .i64 x.2.2], .bool true]) (by simp [results, Tryz.results16, go_sem, z0, z1, z2, hsz]) rfl ?_
    obtain ⟨hF, hB, hx, hmin⟩ := HX.out
    exact ⟨by (repeat (first | (with_reducible exact Fr.refl _ _) | (with_reducible assumption) | (with_reducible refine Fr.drew ?_) | (with_reducible refine Fr.drewN ?_ _) | (with_reducible refine Fr.alloc ?_ _) | (with_reducible refine Fr.mput ?_ _ _ _ (.inl (by simp))) | (with_reducible refine Fr.mdel ?_ _ _ (.inl (by simp))) | (with_reducible refine Fr.set ?_ _ _ (.inr (by first | omega | (dsimp only; omega)))) | (with_reducible refine Fr.set ?_ _ _ (.inl (by simp))))), .inr ⟨x, hx, hmin, rfl⟩⟩
end Go.Proofs.YthahlimmmnmniaaGreatDoor

namespace Go.Proofs.YthahlimmmnmniaaGreatDoor
open Go.RowKit Go.Fw

structure Verd where
  kind : Int
  backend : Int
  site : Int
  known : Bool
def Verd.val (v : Verd) : Value := .agg #[.int .i64 v.kind, .int .i64 v.backend, .int .i64 v.site, .bool v.known]

def KnownSaid (T : FTab) (P : PoolT) (f : Flow) (v : Verd) (b : Bool) : Prop :=
  (b = true ∧ ∃ x, Goes T f x ∧ (pget P x).up = true ∧ v = ⟨1, x, 0, true⟩) ∨ (b = false ∧ ∀ x, Goes T f x → (pget P x).up = false)
def LocalSaid (P : PoolT) (f : Flow) (v : Verd) (b : Bool) : Prop :=
  (b = true ∧ quorate P = true ∧ ∃ m ∈ eligible P, (∀ y ∈ eligible P, score (key f) y.id y.weight ≤ score (key f) m.id m.weight) ∧ v = ⟨1, m.id, 0, false⟩) ∨ (b = false ∧ (eligible P = [] ∨ quorate P = false))
def AwaySaid (S : SibT) (now : Int) (tun : Bool) (v : Verd) (b : Bool) : Prop :=
  (b = true ∧ tun = false ∧ ∃ x ∈ ableL S now, (∀ y ∈ ableL S now, ltOf cmpSite y x = false) ∧ v = ⟨2, 0, x.1, false⟩) ∨ (b = false ∧ (ableL S now = [] ∨ tun = true))

def RulePost (R : Verd → Bool → Prop) (w : World) (en : Ending) (w' : World) : Prop :=
  ∃ v b, en = .returned (.tuple #[v.val, .bool b]) ∧ Fr [] w w' ∧ R v b

theorem flow_cells' {w : World} {b : Nat} {f : Flow} (h : w.heap[b]? = some (.cells #[.int .i64 f.proto, .int .u32 f.src, .int .u32 f.dst, .int .i64 f.sport, .int .i64 f.dport] 31 (0, 0))) :
    w.cell? ⟨b, 0, none⟩ = some (.int .i64 f.proto) ∧ w.cell? ⟨b, 1, none⟩ = some (.int .u32 f.src) ∧ w.cell? ⟨b, 2, none⟩ = some (.int .u32 f.dst) ∧ w.cell? ⟨b, 3, none⟩ = some (.int .i64 f.sport) ∧ w.cell? ⟨b, 4, none⟩ = some (.int .i64 f.dport) :=
  ⟨cell_at h 0 rfl, cell_at h 1 rfl, cell_at h 2 rfl, cell_at h 3 rfl, cell_at h 4 rfl⟩
theorem verd_cells {w : World} {b : Nat} {a1 a2 a3 a4 : Value} (h : w.heap[b]? = some (.cells #[a1, a2, a3, a4] 46 (0, 0))) :
    (w.cell? ⟨b, 0, none⟩ = some a1 ∧ w.cell? ⟨b, 1, none⟩ = some a2 ∧ w.cell? ⟨b, 2, none⟩ = some a3 ∧ w.cell? ⟨b, 3, none⟩ = some a4) ∧ (w.frozen? ⟨b, 0, none⟩ = false ∧ w.frozen? ⟨b, 1, none⟩ = false ∧ w.frozen? ⟨b, 2, none⟩ = false ∧ w.frozen? ⟨b, 3, none⟩ = false) :=
  ⟨⟨cell_at h 0 rfl, cell_at h 1 rfl, cell_at h 2 rfl, cell_at h 3 rfl⟩, free_at h 0, free_at h 1, free_at h 2, free_at h 3⟩

set_option maxHeartbeats 2000000 in
theorem known_any {W : World} {t p pb a0 a1 a2 : Nat} {O : List Nat} {T : FTab} {P : PoolT} {f : Flow} (hT : FlowsAt W t O T) (hP : PoolAt W p pb P)
    (c0 : W.cell? ⟨a0, 0, none⟩ = some (.pointer (some ⟨t, 0, none⟩))) (hf : W.heap[a1]? = some (.cells #[.int .i64 f.proto, .int .u32 f.src, .int .u32 f.dst, .int .i64 f.sport, .int .i64 f.dport] 31 (0, 0)))
    (c2 : W.cell? ⟨a2, 0, none⟩ = some (.pointer (some ⟨p, 0, none⟩))) :
    Calls Tryz.prog 37 #[.pointer (some ⟨a0, 0, none⟩), .pointer (some ⟨a1, 0, none⟩), .pointer (some ⟨a2, 0, none⟩)] W (RulePost (KnownSaid T P f) W) := by
  obtain ⟨v0, v1, v2, v3, v4⟩ := flow_cells' hf
  have la0 := World.block_lt_of_cell? _ _ c0
  have la2 := World.block_lt_of_cell? _ _ c2
  have la1 := lt_of hf
  simp only at la0 la2
  have hpk := fun o => peek_f (hT.fr (S := []) ((Fr.refl [] W).alloc o) (by simp)) f
  have HP := Lib.hid (And.intro hP hpk)
  clear hpk hf
  go_enter Tryz.func37, Tryz.ntmps37
  go_wp2_with fail
  refine (HP.out.2 _).mono ?_
  rintro en w1 ⟨hfr, hcase⟩
  have hF := Fr.trans (S := []) (a := W) (by (repeat (first | (with_reducible exact Fr.refl _ _) | (with_reducible assumption) | (with_reducible refine Fr.drew ?_) | (with_reducible refine Fr.drewN ?_ _) | (with_reducible refine Fr.alloc ?_ _) | (with_reducible refine Fr.mput ?_ _ _ _ (.inl (by simp))) | (with_reducible refine Fr.mdel ?_ _ _ (.inl (by simp))) | (with_reducible refine Fr.set ?_ _ _ (.inr (by first | omega | (dsimp only; omega)))) | (with_reducible refine Fr.set ?_ _ _ (.inl (by simp)))))) hfr (by simp)
  have hB := hfr.keep (k := W.heap.size) (o := .cells #[.int .i64 0, .int .i64 0, .int .i64 0, .bool false] 46 (0, 0)) (by rw [heap_alloc_if, if_pos (by simp)]) (by simp)
  obtain ⟨⟨z0, z1, z2, z3⟩, g0, g1, g2, g3⟩ := verd_cells hB
  have hsz := lt_of hB
  have d2 := (hF.cell (a := ⟨a2, 0, none⟩) la2 (by simp)).trans c2
  have ne1 : ¬ (w1.heap.size = W.heap.size) := by omega
  have ne1' : ¬ (W.heap.size = w1.heap.size) := by omega
  have ne2 : ¬ (a2 = W.heap.size) := by omega
  have ne2' : ¬ (W.heap.size = a2) := by omega
  have la2' : a2 < w1.heap.size := Nat.lt_of_lt_of_le la2 hF.size
  rcases hcase with ⟨b, la, hgo, rfl⟩ | ⟨hno, rfl⟩
  · have hup := fun (W' : World) (h : Fr [] w1 W') => up_mem ((HP.out.1.fr hF (by simp) (by simp)).fr h (by simp) (by simp)) b
    obtain ⟨up, hupe⟩ : ∃ up, (pget P b).up = up := ⟨_, rfl⟩
    simp only [hupe] at hup
    have HX := Lib.hid (And.intro hF (And.intro hB (And.intro hgo (And.intro hupe hup))))
    clear hF hB hgo hup hfr hupe
    go_wp2
    go_region_held3 (fun w' => w'.cell? ⟨w1.heap.size, 5, none⟩ = some (.int .i64 b) ∧ w'.cell? ⟨a2, 0, none⟩ = some (.pointer (some ⟨p, 0, none⟩))) (go_keep) ((first
      | (go_at_call 10; refine (HX.out.2.2.2.2 _ ?_).mono ?_; ((repeat (first | (with_reducible exact Fr.refl _ _) | (with_reducible assumption) | (with_reducible refine Fr.drew ?_) | (with_reducible refine Fr.drewN ?_ _) | (with_reducible refine Fr.alloc ?_ _) | (with_reducible refine Fr.mput ?_ _ _ _ (.inl (by simp))) | (with_reducible refine Fr.mdel ?_ _ _ (.inl (by simp))) | (with_reducible refine Fr.set ?_ _ _ (.inr (by first | omega | (dsimp only; omega)))) | (with_reducible refine Fr.set ?_ _ _ (.inl (by simp)))))); rintro en w3 ⟨rfl, hfr3⟩; (have s0 : w3.cell? ⟨w1.heap.size, 5, none⟩ = some (.int .i64 b) := (hfr3.cell (by simp) (by simp)).trans (by go_simp)); (have s2 : w3.cell? ⟨a2, 0, none⟩ = some (.pointer (some ⟨p, 0, none⟩)) := (hfr3.cell (by simp; omega) (by simp)).trans (by go_simp)); (have hF3 := Fr.trans (S := []) (a := w1) (by (repeat (first | (with_reducible exact Fr.refl _ _) | (with_reducible assumption) | (with_reducible refine Fr.drew ?_) | (with_reducible refine Fr.drewN ?_ _) | (with_reducible refine Fr.alloc ?_ _) | (with_reducible refine Fr.mput ?_ _ _ _ (.inl (by simp))) | (with_reducible refine Fr.mdel ?_ _ _ (.inl (by simp))) | (with_reducible refine Fr.set ?_ _ _ (.inr (by first | omega | (dsimp only; omega)))) | (with_reducible refine Fr.set ?_ _ _ (.inl (by simp)))))) hfr3 (by simp)); (have hB3 := hF3.keep (HX.out.2.1) (by simp)); obtain ⟨⟨y0, y1, y2, y3⟩, e0, e1, e2, e3⟩ := verd_cells hB3; (have ls3 := lt_of hB3); (have HF3 := Lib.hid (And.intro hF3 hB3)); clear hF3 hB3 hfr3)))
    all_goals go_wp2
    all_goals refine bodyPost_ret (v := .tuple #[.agg #[.int .i64 1, .int .i64 b, .int .i64 0, .bool true], .bool up]) (by simp [results, Tryz.results37, go_sem, y0, y1, y2, y3, ls3]) rfl ?_
    all_goals obtain ⟨hF, hB, hgo, hupe, hup⟩ := HX.out
    all_goals have hW3 := hF.trans HF3.out.1 (by simp)
    all_goals refine ⟨⟨1, b, 0, true⟩, up, rfl, by (repeat (first | (with_reducible exact Fr.refl _ _) | (with_reducible assumption) | (with_reducible refine Fr.drew ?_) | (with_reducible refine Fr.drewN ?_ _) | (with_reducible refine Fr.alloc ?_ _) | (with_reducible refine Fr.mput ?_ _ _ _ (.inl (by simp))) | (with_reducible refine Fr.mdel ?_ _ _ (.inl (by simp))) | (with_reducible refine Fr.set ?_ _ _ (.inr (by first | omega | (dsimp only; omega)))) | (with_reducible refine Fr.set ?_ _ _ (.inl (by simp))))), ?_⟩
    all_goals cases up with
    | true => exact .inl ⟨rfl, b, hgo, hupe, rfl⟩
    | false => exact .inr ⟨rfl, fun x hx => by rw [hT.one hx hgo]; exact hupe⟩
  · have HX := Lib.hid (And.intro hF (And.intro hB hno))
    clear hF hB hno hfr
    go_wp2
    go_region
    all_goals go_wp2
    all_goals refine bodyPost_ret (v := .tuple #[.agg #[.int .i64 1, .int .i64 0, .int .i64 0, .bool true], .bool false]) (by simp [results, Tryz.results37, go_sem, z0, z1, z2, z3, hsz]) rfl ?_
    all_goals obtain ⟨hF, hB, hno⟩ := HX.out
    all_goals refine ⟨⟨1, 0, 0, true⟩, false, rfl, by (repeat (first | (with_reducible exact Fr.refl _ _) | (with_reducible assumption) | (with_reducible refine Fr.drew ?_) | (with_reducible refine Fr.drewN ?_ _) | (with_reducible refine Fr.alloc ?_ _) | (with_reducible refine Fr.mput ?_ _ _ _ (.inl (by simp))) | (with_reducible refine Fr.mdel ?_ _ _ (.inl (by simp))) | (with_reducible refine Fr.set ?_ _ _ (.inr (by first | omega | (dsimp only; omega)))) | (with_reducible refine Fr.set ?_ _ _ (.inl (by simp))))), .inr ⟨rfl, fun x hx => absurd hx (hno x)⟩⟩
end Go.Proofs.YthahlimmmnmniaaGreatDoor

namespace Go.Proofs.YthahlimmmnmniaaGreatDoor
open Go.RowKit Go.Fw

theorem cutf {p q : Prop} (h : p) (k : p → q) : q := k h

theorem eligible_fn {w : World} {p mb : Nat} {T : PoolT} (h : PoolAt w p mb T) (ok : POk T) :
    Calls Tryz.prog 14 #[.pointer (some ⟨p, 0, none⟩)] w (EligPost T w) := by
  have H := Lib.hid (eligible_any h ok)
  go_enter Tryz.func14, Tryz.ntmps14
  go_wp2_with fail
  refine H.out.mono ?_
  rintro en w1 ⟨v, rfl, h1, h2⟩
  have HX := Lib.hid (And.intro h1 h2)
  clear h1 h2
  go_wp2
  go_returns
  exact ⟨v, rfl, HX.out.1, HX.out.2⟩

def PickUni (f : Flow) (l : List Mem) (w : World) (en : Ending) (w' : World) : Prop :=
  ∃ (a b c : Int) (ok : Bool), en = .returned (.tuple #[.agg #[.int .i64 a, .int .u32 b, .int .i64 c], .bool ok]) ∧ Fr [] w w' ∧
    ((ok = false ∧ l = []) ∨ (ok = true ∧ ∃ m ∈ l, (∀ y ∈ l, score (key f) y.id y.weight ≤ score (key f) m.id m.weight) ∧ a = m.id))

theorem pick_uni {w : World} {base n : Nat} {v : Value} (f : Flow) (l : List Mem) (hn : l.length = n) (hn16 : n ≤ 16) (hown : w.ownsRow base 56 3 v n (l.flatMap bcells)) (hw : ∀ m ∈ l, 0 < m.weight ∧ m.weight ≤ 100) :
    Calls Tryz.prog 39 #[.agg #[.int .i64 f.proto, .int .u32 f.src, .int .u32 f.dst, .int .i64 f.sport, .int .i64 f.dport], v] w (PickUni f l w) := by
  refine (pick_any f l hn hn16 hown hw).mono ?_
  rintro en w' ⟨hfr, ⟨h0, rfl⟩ | ⟨m, hm, hmax, rfl⟩⟩
  · exact ⟨0, 0, 0, false, rfl, hfr, .inl ⟨rfl, h0⟩⟩
  · exact ⟨_, _, _, true, rfl, hfr, .inr ⟨rfl, m, hm, hmax, rfl⟩⟩

theorem keysOf_mem {T : PoolT} {k : Int} (h : k ∈ keysOf T.l) : ∃ m, (k, m) ∈ T.l ∧ pget T k = m := by
  obtain ⟨m, hm⟩ := keys_mem h
  exact ⟨m, aget_mem hm, by unfold pget; rw [hm]; rfl⟩
theorem elig_ok {T : PoolT} (ok : POk T) : (eligible T).length ≤ 16 ∧ ∀ m ∈ eligible T, 0 < m.weight ∧ m.weight ≤ 100 := by
  constructor
  · unfold eligible
    refine Nat.le_trans (List.length_filter_le _ _) ?_
    rw [List.length_map]
    unfold keysOf
    rw [List.length_mergeSort, List.length_map]
    exact ok.1
  · intro m hm
    unfold eligible at hm
    rw [List.mem_filter, List.mem_map] at hm
    obtain ⟨⟨k, hk, rfl⟩, he⟩ := hm
    obtain ⟨m, hm, hp⟩ := keysOf_mem hk
    have := ok.2 _ hm
    simp only at this
    unfold elig at he
    simp at he
    rw [hp] at he ⊢
    omega

set_option maxHeartbeats 4000000 in
theorem local_any {W : World} {p pb a1 a2 : Nat} {P : PoolT} {f : Flow} (hP : PoolAt W p pb P) (ok : POk P) (p0 : 1 ≤ P.percent) (p1 : P.percent ≤ 100)
    (hf : W.heap[a1]? = some (.cells #[.int .i64 f.proto, .int .u32 f.src, .int .u32 f.dst, .int .i64 f.sport, .int .i64 f.dport] 31 (0, 0)))
    (c2 : W.cell? ⟨a2, 0, none⟩ = some (.pointer (some ⟨p, 0, none⟩))) :
    Calls Tryz.prog 38 #[.pointer (some ⟨a1, 0, none⟩), .pointer (some ⟨a2, 0, none⟩)] W (RulePost (LocalSaid P f) W) := by
  obtain ⟨v0, v1, v2, v3, v4⟩ := flow_cells' hf
  have la2 := World.block_lt_of_cell? _ _ c2
  have la1 := lt_of hf
  simp only at la2
  have ne2 : ¬ (a2 = W.heap.size) := by omega
  have ne2' : ¬ (W.heap.size = a2) := by omega
  have nb1 : ¬ (a1 = W.heap.size) := by omega
  have nb2 : ¬ (a1 = W.heap.size + 1) := by omega
  have nc1 : ¬ (W.heap.size = a1) := by omega
  have nc2 : ¬ (W.heap.size + 1 = a1) := by omega
  have nc3 : ¬ (W.heap.size + 1 = a2) := by omega
  have nb3 : ¬ (a2 = W.heap.size + 1) := by omega
  have hel := fun (W' : World) (h : Fr [] W W') => eligible_fn (hP.fr h (by simp) (by simp)) ok
  have hq := fun (W' : World) (h : Fr [] W W') => quorate_any (hP.fr h (by simp) (by simp)) ok p0 p1
  have HP := Lib.hid (And.intro hP (And.intro hel (And.intro hq (And.intro (elig_ok ok) ok))))
  clear hel hq ok
  go_enter Tryz.func38, Tryz.ntmps38
  go_wp2
  go_region_held3 (fun w' => w'.cell? ⟨a1, 0, none⟩ = some (.int .i64 f.proto) ∧ w'.cell? ⟨a1, 1, none⟩ = some (.int .u32 f.src) ∧ w'.cell? ⟨a1, 2, none⟩ = some (.int .u32 f.dst) ∧ w'.cell? ⟨a1, 3, none⟩ = some (.int .i64 f.sport) ∧ w'.cell? ⟨a1, 4, none⟩ = some (.int .i64 f.dport) ∧ w'.cell? ⟨a2, 0, none⟩ = some (.pointer (some ⟨p, 0, none⟩))) (go_keep) ((first
    | (go_at_call 14; refine (HP.out.2.1 _ ?_).mono ?_; ((repeat (first | (with_reducible exact Fr.refl _ _) | (with_reducible assumption) | (with_reducible refine Fr.drew ?_) | (with_reducible refine Fr.drewN ?_ _) | (with_reducible refine Fr.alloc ?_ _) | (with_reducible refine Fr.mput ?_ _ _ _ (.inl (by simp))) | (with_reducible refine Fr.mdel ?_ _ _ (.inl (by simp))) | (with_reducible refine Fr.set ?_ _ _ (.inr (by first | omega | (dsimp only; omega)))) | (with_reducible refine Fr.set ?_ _ _ (.inl (by simp)))))); rintro en w1 ⟨v, rfl, hown, hfr1⟩; (have hF1 := Fr.trans (S := []) (a := W) (by (repeat (first | (with_reducible exact Fr.refl _ _) | (with_reducible assumption) | (with_reducible refine Fr.drew ?_) | (with_reducible refine Fr.drewN ?_ _) | (with_reducible refine Fr.alloc ?_ _) | (with_reducible refine Fr.mput ?_ _ _ _ (.inl (by simp))) | (with_reducible refine Fr.mdel ?_ _ _ (.inl (by simp))) | (with_reducible refine Fr.set ?_ _ _ (.inr (by first | omega | (dsimp only; omega)))) | (with_reducible refine Fr.set ?_ _ _ (.inl (by simp)))))) hfr1 (by simp)); (have hsz1 : W.heap.size < w1.heap.size := Nat.lt_of_lt_of_le (by simp <;> omega) hfr1.size);
       (have t0 := (hF1.cell (a := ⟨a1, 0, none⟩) la1 (by simp)).trans v0); (have t1 := (hF1.cell (a := ⟨a1, 1, none⟩) la1 (by simp)).trans v1); (have t2 := (hF1.cell (a := ⟨a1, 2, none⟩) la1 (by simp)).trans v2); (have t3 := (hF1.cell (a := ⟨a1, 3, none⟩) la1 (by simp)).trans v3); (have t4 := (hF1.cell (a := ⟨a1, 4, none⟩) la1 (by simp)).trans v4); (have t5 := (hF1.cell (a := ⟨a2, 0, none⟩) la2 (by simp)).trans c2);
       (have HE := Lib.hid (And.intro hown hF1)); (have HB1 := Lib.hid (hfr1.keep (k := W.heap.size) (o := .cells #[.int .i64 0, .int .i64 0, .int .i64 0, .bool false] 46 (0, 0)) (by (try simp only [heap_drewN, heap_drew, heap_alloc_if, World.size_alloc, World.size_setCell, size_mput, size_mdel]); (first | (simp; done) | (simp [zeroEntry]; done) | (simp; omega) | (simp [zeroEntry]; omega))) (by simp))); (try (refine cutf (p := w1.heap[W.heap.size + 1]? = some (.cells #[.int .i64 0, .int .u32 0, .int .i64 0] 56 (0, 0))) ?_ ?_; ((have hq := Fr.keep hfr1 (heap_new _ _) (by simp)); simpa using hq); intro hbc; obtain ⟨⟨x0, x1, x2⟩, y0, y1, y2⟩ := backend_cells hbc; (have hszc := lt_of hbc); (have HBC := Lib.hid hbc); clear hbc)); clear hown hfr1 hF1)
    | ((have _h3 := HE); clear _h3; go_at_call 39; refine (pick_uni f (eligible P) rfl HP.out.2.2.2.1.1 (own_fr (S := []) (w := w1) HE.out.1 (by (repeat (first | (with_reducible exact Fr.refl _ _) | (with_reducible assumption) | (with_reducible refine Fr.drew ?_) | (with_reducible refine Fr.drewN ?_ _) | (with_reducible refine Fr.alloc ?_ _) | (with_reducible refine Fr.mput ?_ _ _ _ (.inl (by simp))) | (with_reducible refine Fr.mdel ?_ _ _ (.inl (by simp))) | (with_reducible refine Fr.set ?_ _ _ (.inr (by first | omega | (dsimp only; omega)))) | (with_reducible refine Fr.set ?_ _ _ (.inl (by simp)))))) (by simp)) HP.out.2.2.2.1.2).mono ?_; rintro en w2 ⟨a, b, c, bo, rfl, hfr2, hcase⟩; (have hF1 := HE.out.2); (have hb1 := HB1.out); (have hF2 := Fr.trans (S := []) (a := W) (by (repeat (first | (with_reducible exact Fr.refl _ _) | (with_reducible assumption) | (with_reducible refine Fr.drew ?_) | (with_reducible refine Fr.drewN ?_ _) | (with_reducible refine Fr.alloc ?_ _) | (with_reducible refine Fr.mput ?_ _ _ _ (.inl (by simp))) | (with_reducible refine Fr.mdel ?_ _ _ (.inl (by simp))) | (with_reducible refine Fr.set ?_ _ _ (.inr (by first | omega | (dsimp only; omega)))) | (with_reducible refine Fr.set ?_ _ _ (.inl (by simp)))))) hfr2 (by simp));
       (have u0 := (hF2.cell (a := ⟨a1, 0, none⟩) la1 (by simp)).trans v0); (have u1 := (hF2.cell (a := ⟨a1, 1, none⟩) la1 (by simp)).trans v1); (have u2 := (hF2.cell (a := ⟨a1, 2, none⟩) la1 (by simp)).trans v2); (have u3 := (hF2.cell (a := ⟨a1, 3, none⟩) la1 (by simp)).trans v3); (have u4 := (hF2.cell (a := ⟨a1, 4, none⟩) la1 (by simp)).trans v4); (have u5 := (hF2.cell (a := ⟨a2, 0, none⟩) la2 (by simp)).trans c2);
       (have HG := Lib.hid (And.intro hF2 (And.intro (hfr2.keep (k := W.heap.size) (o := .cells #[.int .i64 0, .int .i64 0, .int .i64 0, .bool false] 46 (0, 0)) (by first | exact hb1 | (rw [heap_old _ _ hsz1]; exact hb1)) (by simp)) hcase))); (have hsz2 := lt_of HG.out.2.1); (try ((have hbc := HBC.out); refine cutf (p := w2.heap[W.heap.size + 1]? = some (.cells #[.int .i64 0, .int .u32 0, .int .i64 0] 56 (0, 0))) ?_ ?_; (exact Fr.keep hfr2 hbc (by simp)); intro hbd; obtain ⟨⟨x0, x1, x2⟩, y0, y1, y2⟩ := backend_cells hbd; (have hszd := lt_of hbd); (have HBD := Lib.hid hbd); clear hbd hbc)); (try (refine cutf (p := w2.heap[w1.heap.size]? = some (.cells #[.int .i64 0, .int .u32 0, .int .i64 0] 56 (0, 0))) ?_ ?_; (exact Fr.keep hfr2 (heap_new _ _) (by simp)); intro hbd; obtain ⟨⟨x0, x1, x2⟩, y0, y1, y2⟩ := backend_cells hbd; (have hszd := lt_of hbd); (have HBD := Lib.hid hbd); clear hbd)); (have na1 : ¬ (a1 = w1.heap.size) := by omega); (have na2 : ¬ (a2 = w1.heap.size) := by omega); (have na3 : ¬ (W.heap.size = w1.heap.size) := by omega); (have nr1 : ¬ (w1.heap.size = a1) := by omega); (have nr2 : ¬ (w1.heap.size = a2) := by omega); (have nr4 : ¬ (w2.heap.size = a1) := by omega); (have nr5 : ¬ (w2.heap.size = a2) := by omega); (have na4 : ¬ (a1 = w2.heap.size) := by omega); (have na5 : ¬ (a2 = w2.heap.size) := by omega); (have na6 : ¬ (W.heap.size = w2.heap.size) := by omega); clear hfr2 hcase hF2 hF1 hb1)))
  all_goals obtain ⟨hF2, hV2, hcase⟩ := HG.out
  all_goals have HW2 := Lib.hid (And.intro hF2 (And.intro hV2 hcase))
  · have hFx : Fr [] W (w2.alloc (.cells #[.int .i64 a, .int .u32 b, .int .i64 c] 56)) := by (repeat (first | (with_reducible exact Fr.refl _ _) | (with_reducible assumption) | (with_reducible refine Fr.drew ?_) | (with_reducible refine Fr.drewN ?_ _) | (with_reducible refine Fr.alloc ?_ _) | (with_reducible refine Fr.mput ?_ _ _ _ (.inl (by simp))) | (with_reducible refine Fr.mdel ?_ _ _ (.inl (by simp))) | (with_reducible refine Fr.set ?_ _ _ (.inr (by first | omega | (dsimp only; omega)))) | (with_reducible refine Fr.set ?_ _ _ (.inl (by simp)))))
    have vB : (w2.alloc (.cells #[.int .i64 a, .int .u32 b, .int .i64 c] 56)).heap[W.heap.size]? = some (.cells #[.int .i64 0, .int .i64 0, .int .i64 0, .bool false] 46 (0, 0)) := (heap_old _ _ hsz2).trans hV2
    have cB : (w2.alloc (.cells #[.int .i64 a, .int .u32 b, .int .i64 c] 56)).cell? ⟨w2.heap.size, 0, none⟩ = some (.int .i64 a) := cell_at (heap_new w2 _) 0 rfl
    have bx : w2.heap.size < (w2.alloc (.cells #[.int .i64 a, .int .u32 b, .int .i64 c] 56)).heap.size := by simp
    have bn : ¬ (w2.heap.size = W.heap.size) := by omega
    clear hF2 hV2 hcase

    generalize (w2.alloc (.cells #[.int .i64 a, .int .u32 b, .int .i64 c] 56)) = Wx at *
    generalize w2.heap.size = B at *
    obtain ⟨⟨z0, z1, z2, z3⟩, g0, g1, g2, g3⟩ := verd_cells vB
    have hszW := lt_of vB
    have d2 := (hFx.cell (a := ⟨a2, 0, none⟩) la2 (by simp)).trans c2
    have la2x : a2 < Wx.heap.size := Nat.lt_of_lt_of_le la2 hFx.size
    have bn' : ¬ (W.heap.size = B) := fun e => bn e.symm
    have HV := Lib.hid vB
    clear vB
    cases bo with
    | true =>
      obtain ⟨qr, hqr⟩ : ∃ qr, quorate P = qr := ⟨_, rfl⟩
      have hquo := HP.out.2.2.1
      simp only [hqr] at hquo
      have HQ := Lib.hid (And.intro hqr hquo)
      clear hqr hquo
      go_wp2
      go_region_held3 (fun w' => w'.cell? ⟨B, 0, none⟩ = some (.int .i64 a) ∧ w'.cell? ⟨a2, 0, none⟩ = some (.pointer (some ⟨p, 0, none⟩))) (go_keep) ((first
        | (go_at_call 11; refine (HQ.out.2 _ ?_).mono ?_; ((repeat (first | (with_reducible exact Fr.refl _ _) | (with_reducible assumption) | (with_reducible refine Fr.drew ?_) | (with_reducible refine Fr.drewN ?_ _) | (with_reducible refine Fr.alloc ?_ _) | (with_reducible refine Fr.mput ?_ _ _ _ (.inl (by simp))) | (with_reducible refine Fr.mdel ?_ _ _ (.inl (by simp))) | (with_reducible refine Fr.set ?_ _ _ (.inr (by first | omega | (dsimp only; omega)))) | (with_reducible refine Fr.set ?_ _ _ (.inl (by simp)))))); rintro en w3 ⟨rfl, hfr3⟩; (have s0 : w3.cell? ⟨B, 0, none⟩ = some (.int .i64 a) := (hfr3.cell (by first | exact bx | (simp; omega)) (by simp)).trans (by go_simp)); (have s2 : w3.cell? ⟨a2, 0, none⟩ = some (.pointer (some ⟨p, 0, none⟩)) := (hfr3.cell (by first | exact la2x | (simp; omega)) (by simp)).trans (by go_simp)); (have hF3 := Fr.trans (S := []) (a := W) (by (repeat (first | (with_reducible exact Fr.refl _ _) | (with_reducible assumption) | (with_reducible refine Fr.drew ?_) | (with_reducible refine Fr.drewN ?_ _) | (with_reducible refine Fr.alloc ?_ _) | (with_reducible refine Fr.mput ?_ _ _ _ (.inl (by simp))) | (with_reducible refine Fr.mdel ?_ _ _ (.inl (by simp))) | (with_reducible refine Fr.set ?_ _ _ (.inr (by first | omega | (dsimp only; omega)))) | (with_reducible refine Fr.set ?_ _ _ (.inl (by simp)))))) hfr3 (by simp)); (have hB3 := hfr3.keep HV.out (by simp)); obtain ⟨⟨y0, y1, y2, y3⟩, e0, e1, e2, e3⟩ := verd_cells hB3; (have ls3 := lt_of hB3); (have HF3 := Lib.hid (And.intro hF3 hB3)); clear hF3 hB3 hfr3)))
      all_goals go_wp2
      all_goals refine bodyPost_ret (v := .tuple #[.agg #[.int .i64 1, .int .i64 a, .int .i64 0, .bool false], .bool qr]) (by simp [results, Tryz.results38, go_sem, y0, y1, y2, y3, ls3]) rfl ?_
      all_goals have hW3 := HF3.out.1
      all_goals refine ⟨⟨1, a, 0, false⟩, qr, rfl, by (repeat (first | (with_reducible exact Fr.refl _ _) | (with_reducible assumption) | (with_reducible refine Fr.drew ?_) | (with_reducible refine Fr.drewN ?_ _) | (with_reducible refine Fr.alloc ?_ _) | (with_reducible refine Fr.mput ?_ _ _ _ (.inl (by simp))) | (with_reducible refine Fr.mdel ?_ _ _ (.inl (by simp))) | (with_reducible refine Fr.set ?_ _ _ (.inr (by first | omega | (dsimp only; omega)))) | (with_reducible refine Fr.set ?_ _ _ (.inl (by simp))))), ?_⟩
      all_goals rcases HW2.out.2.2 with ⟨h1, _⟩ | ⟨_, m, hm, hmax, rfl⟩
      all_goals first
        | (cases h1; done)
        | (cases qr with
          | true => exact .inl ⟨rfl, HQ.out.1, m, hm, hmax, rfl⟩
          | false => exact .inr ⟨rfl, .inr HQ.out.1⟩)
    | false =>
      go_wp2
      go_region
      all_goals go_wp2
      all_goals refine bodyPost_ret (v := .tuple #[.agg #[.int .i64 1, .int .i64 a, .int .i64 0, .bool false], .bool false]) (by simp [results, Tryz.results38, go_sem, z0, z1, z2, z3, hszW]) rfl ?_
      all_goals refine ⟨⟨1, a, 0, false⟩, false, rfl, by (repeat (first | (with_reducible exact Fr.refl _ _) | (with_reducible assumption) | (with_reducible refine Fr.drew ?_) | (with_reducible refine Fr.drewN ?_ _) | (with_reducible refine Fr.alloc ?_ _) | (with_reducible refine Fr.mput ?_ _ _ _ (.inl (by simp))) | (with_reducible refine Fr.mdel ?_ _ _ (.inl (by simp))) | (with_reducible refine Fr.set ?_ _ _ (.inr (by first | omega | (dsimp only; omega)))) | (with_reducible refine Fr.set ?_ _ _ (.inl (by simp))))), ?_⟩
      all_goals rcases HW2.out.2.2 with ⟨_, h0⟩ | ⟨h1, _⟩
      all_goals first
        | (cases h1; done)
        | exact .inr ⟨rfl, .inl h0⟩
  · have hFx : Fr [] W (((w2.setCell ⟨w1.heap.size, 0, none⟩ (.int .i64 a)).setCell ⟨w1.heap.size, 1, none⟩ (.int .u32 b)).setCell ⟨w1.heap.size, 2, none⟩ (.int .i64 c)) := by (repeat (first | (with_reducible exact Fr.refl _ _) | (with_reducible assumption) | (with_reducible refine Fr.drew ?_) | (with_reducible refine Fr.drewN ?_ _) | (with_reducible refine Fr.alloc ?_ _) | (with_reducible refine Fr.mput ?_ _ _ _ (.inl (by simp))) | (with_reducible refine Fr.mdel ?_ _ _ (.inl (by simp))) | (with_reducible refine Fr.set ?_ _ _ (.inr (by first | omega | (dsimp only; omega)))) | (with_reducible refine Fr.set ?_ _ _ (.inl (by simp)))))
    have vB : (((w2.setCell ⟨w1.heap.size, 0, none⟩ (.int .i64 a)).setCell ⟨w1.heap.size, 1, none⟩ (.int .u32 b)).setCell ⟨w1.heap.size, 2, none⟩ (.int .i64 c)).heap[W.heap.size]? = some (.cells #[.int .i64 0, .int .i64 0, .int .i64 0, .bool false] 46 (0, 0)) := by rw [heap_set_ne _ _ _ (by simp; try omega), heap_set_ne _ _ _ (by simp; try omega), heap_set_ne _ _ _ (by simp; try omega)]; exact hV2
    have cB : (((w2.setCell ⟨w1.heap.size, 0, none⟩ (.int .i64 a)).setCell ⟨w1.heap.size, 1, none⟩ (.int .u32 b)).setCell ⟨w1.heap.size, 2, none⟩ (.int .i64 c)).cell? ⟨w1.heap.size, 0, none⟩ = some (.int .i64 a) := by go_simp
    have bx : w1.heap.size < (((w2.setCell ⟨w1.heap.size, 0, none⟩ (.int .i64 a)).setCell ⟨w1.heap.size, 1, none⟩ (.int .u32 b)).setCell ⟨w1.heap.size, 2, none⟩ (.int .i64 c)).heap.size := by simp; omega
    have bn : ¬ (w1.heap.size = W.heap.size) := by omega
    clear hF2 hV2 hcase

    generalize (((w2.setCell ⟨w1.heap.size, 0, none⟩ (.int .i64 a)).setCell ⟨w1.heap.size, 1, none⟩ (.int .u32 b)).setCell ⟨w1.heap.size, 2, none⟩ (.int .i64 c)) = Wx at *
    generalize w1.heap.size = B at *
    obtain ⟨⟨z0, z1, z2, z3⟩, g0, g1, g2, g3⟩ := verd_cells vB
    have hszW := lt_of vB
    have d2 := (hFx.cell (a := ⟨a2, 0, none⟩) la2 (by simp)).trans c2
    have la2x : a2 < Wx.heap.size := Nat.lt_of_lt_of_le la2 hFx.size
    have bn' : ¬ (W.heap.size = B) := fun e => bn e.symm
    have HV := Lib.hid vB
    clear vB
    cases bo with
    | true =>
      obtain ⟨qr, hqr⟩ : ∃ qr, quorate P = qr := ⟨_, rfl⟩
      have hquo := HP.out.2.2.1
      simp only [hqr] at hquo
      have HQ := Lib.hid (And.intro hqr hquo)
      clear hqr hquo
      go_wp2
      go_region_held3 (fun w' => w'.cell? ⟨B, 0, none⟩ = some (.int .i64 a) ∧ w'.cell? ⟨a2, 0, none⟩ = some (.pointer (some ⟨p, 0, none⟩))) (go_keep) ((first
        | (go_at_call 11; refine (HQ.out.2 _ ?_).mono ?_; ((repeat (first | (with_reducible exact Fr.refl _ _) | (with_reducible assumption) | (with_reducible refine Fr.drew ?_) | (with_reducible refine Fr.drewN ?_ _) | (with_reducible refine Fr.alloc ?_ _) | (with_reducible refine Fr.mput ?_ _ _ _ (.inl (by simp))) | (with_reducible refine Fr.mdel ?_ _ _ (.inl (by simp))) | (with_reducible refine Fr.set ?_ _ _ (.inr (by first | omega | (dsimp only; omega)))) | (with_reducible refine Fr.set ?_ _ _ (.inl (by simp)))))); rintro en w3 ⟨rfl, hfr3⟩; (have s0 : w3.cell? ⟨B, 0, none⟩ = some (.int .i64 a) := (hfr3.cell (by first | exact bx | (simp; omega)) (by simp)).trans (by go_simp)); (have s2 : w3.cell? ⟨a2, 0, none⟩ = some (.pointer (some ⟨p, 0, none⟩)) := (hfr3.cell (by first | exact la2x | (simp; omega)) (by simp)).trans (by go_simp)); (have hF3 := Fr.trans (S := []) (a := W) (by (repeat (first | (with_reducible exact Fr.refl _ _) | (with_reducible assumption) | (with_reducible refine Fr.drew ?_) | (with_reducible refine Fr.drewN ?_ _) | (with_reducible refine Fr.alloc ?_ _) | (with_reducible refine Fr.mput ?_ _ _ _ (.inl (by simp))) | (with_reducible refine Fr.mdel ?_ _ _ (.inl (by simp))) | (with_reducible refine Fr.set ?_ _ _ (.inr (by first | omega | (dsimp only; omega)))) | (with_reducible refine Fr.set ?_ _ _ (.inl (by simp)))))) hfr3 (by simp)); (have hB3 := hfr3.keep HV.out (by simp)); obtain ⟨⟨y0, y1, y2, y3⟩, e0, e1, e2, e3⟩ := verd_cells hB3; (have ls3 := lt_of hB3); (have HF3 := Lib.hid (And.intro hF3 hB3)); clear hF3 hB3 hfr3)))
      all_goals go_wp2
      all_goals refine bodyPost_ret (v := .tuple #[.agg #[.int .i64 1, .int .i64 a, .int .i64 0, .bool false], .bool qr]) (by simp [results, Tryz.results38, go_sem, y0, y1, y2, y3, ls3]) rfl ?_
      all_goals have hW3 := HF3.out.1
      all_goals refine ⟨⟨1, a, 0, false⟩, qr, rfl, by (repeat (first | (with_reducible exact Fr.refl _ _) | (with_reducible assumption) | (with_reducible refine Fr.drew ?_) | (with_reducible refine Fr.drewN ?_ _) | (with_reducible refine Fr.alloc ?_ _) | (with_reducible refine Fr.mput ?_ _ _ _ (.inl (by simp))) | (with_reducible refine Fr.mdel ?_ _ _ (.inl (by simp))) | (with_reducible refine Fr.set ?_ _ _ (.inr (by first | omega | (dsimp only; omega)))) | (with_reducible refine Fr.set ?_ _ _ (.inl (by simp))))), ?_⟩
      all_goals rcases HW2.out.2.2 with ⟨h1, _⟩ | ⟨_, m, hm, hmax, rfl⟩
      all_goals first
        | (cases h1; done)
        | (cases qr with
          | true => exact .inl ⟨rfl, HQ.out.1, m, hm, hmax, rfl⟩
          | false => exact .inr ⟨rfl, .inr HQ.out.1⟩)
    | false =>
      go_wp2
      go_region
      all_goals go_wp2
      all_goals refine bodyPost_ret (v := .tuple #[.agg #[.int .i64 1, .int .i64 a, .int .i64 0, .bool false], .bool false]) (by simp [results, Tryz.results38, go_sem, z0, z1, z2, z3, hszW]) rfl ?_
      all_goals refine ⟨⟨1, a, 0, false⟩, false, rfl, by (repeat (first | (with_reducible exact Fr.refl _ _) | (with_reducible assumption) | (with_reducible refine Fr.drew ?_) | (with_reducible refine Fr.drewN ?_ _) | (with_reducible refine Fr.alloc ?_ _) | (with_reducible refine Fr.mput ?_ _ _ _ (.inl (by simp))) | (with_reducible refine Fr.mdel ?_ _ _ (.inl (by simp))) | (with_reducible refine Fr.set ?_ _ _ (.inr (by first | omega | (dsimp only; omega)))) | (with_reducible refine Fr.set ?_ _ _ (.inl (by simp))))), ?_⟩
      all_goals rcases HW2.out.2.2 with ⟨_, h0⟩ | ⟨h1, _⟩
      all_goals first
        | (cases h1; done)
        | exact .inr ⟨rfl, .inl h0⟩
  · have hFx : Fr [] W (((w2.setCell ⟨(W.heap.size + 1), 0, none⟩ (.int .i64 a)).setCell ⟨(W.heap.size + 1), 1, none⟩ (.int .u32 b)).setCell ⟨(W.heap.size + 1), 2, none⟩ (.int .i64 c)) := by (repeat (first | (with_reducible exact Fr.refl _ _) | (with_reducible assumption) | (with_reducible refine Fr.drew ?_) | (with_reducible refine Fr.drewN ?_ _) | (with_reducible refine Fr.alloc ?_ _) | (with_reducible refine Fr.mput ?_ _ _ _ (.inl (by simp))) | (with_reducible refine Fr.mdel ?_ _ _ (.inl (by simp))) | (with_reducible refine Fr.set ?_ _ _ (.inr (by first | omega | (dsimp only; omega)))) | (with_reducible refine Fr.set ?_ _ _ (.inl (by simp)))))
    have vB : (((w2.setCell ⟨(W.heap.size + 1), 0, none⟩ (.int .i64 a)).setCell ⟨(W.heap.size + 1), 1, none⟩ (.int .u32 b)).setCell ⟨(W.heap.size + 1), 2, none⟩ (.int .i64 c)).heap[W.heap.size]? = some (.cells #[.int .i64 0, .int .i64 0, .int .i64 0, .bool false] 46 (0, 0)) := by rw [heap_set_ne _ _ _ (by simp; try omega), heap_set_ne _ _ _ (by simp; try omega), heap_set_ne _ _ _ (by simp; try omega)]; exact hV2
    have cB : (((w2.setCell ⟨(W.heap.size + 1), 0, none⟩ (.int .i64 a)).setCell ⟨(W.heap.size + 1), 1, none⟩ (.int .u32 b)).setCell ⟨(W.heap.size + 1), 2, none⟩ (.int .i64 c)).cell? ⟨(W.heap.size + 1), 0, none⟩ = some (.int .i64 a) := by go_simp
    have bx : (W.heap.size + 1) < (((w2.setCell ⟨(W.heap.size + 1), 0, none⟩ (.int .i64 a)).setCell ⟨(W.heap.size + 1), 1, none⟩ (.int .u32 b)).setCell ⟨(W.heap.size + 1), 2, none⟩ (.int .i64 c)).heap.size := by simp; omega
    have bn : ¬ ((W.heap.size + 1) = W.heap.size) := by omega
    clear hF2 hV2 hcase

    generalize (((w2.setCell ⟨(W.heap.size + 1), 0, none⟩ (.int .i64 a)).setCell ⟨(W.heap.size + 1), 1, none⟩ (.int .u32 b)).setCell ⟨(W.heap.size + 1), 2, none⟩ (.int .i64 c)) = Wx at *
    generalize (W.heap.size + 1) = B at *
    obtain ⟨⟨z0, z1, z2, z3⟩, g0, g1, g2, g3⟩ := verd_cells vB
    have hszW := lt_of vB
    have d2 := (hFx.cell (a := ⟨a2, 0, none⟩) la2 (by simp)).trans c2
    have la2x : a2 < Wx.heap.size := Nat.lt_of_lt_of_le la2 hFx.size
    have bn' : ¬ (W.heap.size = B) := fun e => bn e.symm
    have HV := Lib.hid vB
    clear vB
    cases bo with
    | true =>
      obtain ⟨qr, hqr⟩ : ∃ qr, quorate P = qr := ⟨_, rfl⟩
      have hquo := HP.out.2.2.1
      simp only [hqr] at hquo
      have HQ := Lib.hid (And.intro hqr hquo)
      clear hqr hquo
      go_wp2
      go_region_held3 (fun w' => w'.cell? ⟨B, 0, none⟩ = some (.int .i64 a) ∧ w'.cell? ⟨a2, 0, none⟩ = some (.pointer (some ⟨p, 0, none⟩))) (go_keep) ((first
        | (go_at_call 11; refine (HQ.out.2 _ ?_).mono ?_; ((repeat (first | (with_reducible exact Fr.refl _ _) | (with_reducible assumption) | (with_reducible refine Fr.drew ?_) | (with_reducible refine Fr.drewN ?_ _) | (with_reducible refine Fr.alloc ?_ _) | (with_reducible refine Fr.mput ?_ _ _ _ (.inl (by simp))) | (with_reducible refine Fr.mdel ?_ _ _ (.inl (by simp))) | (with_reducible refine Fr.set ?_ _ _ (.inr (by first | omega | (dsimp only; omega)))) | (with_reducible refine Fr.set ?_ _ _ (.inl (by simp)))))); rintro en w3 ⟨rfl, hfr3⟩; (have s0 : w3.cell? ⟨B, 0, none⟩ = some (.int .i64 a) := (hfr3.cell (by first | exact bx | (simp; omega)) (by simp)).trans (by go_simp)); (have s2 : w3.cell? ⟨a2, 0, none⟩ = some (.pointer (some ⟨p, 0, none⟩)) := (hfr3.cell (by first | exact la2x | (simp; omega)) (by simp)).trans (by go_simp)); (have hF3 := Fr.trans (S := []) (a := W) (by (repeat (first | (with_reducible exact Fr.refl _ _) | (with_reducible assumption) | (with_reducible refine Fr.drew ?_) | (with_reducible refine Fr.drewN ?_ _) | (with_reducible refine Fr.alloc ?_ _) | (with_reducible refine Fr.mput ?_ _ _ _ (.inl (by simp))) | (with_reducible refine Fr.mdel ?_ _ _ (.inl (by simp))) | (with_reducible refine Fr.set ?_ _ _ (.inr (by first | omega | (dsimp only; omega)))) | (with_reducible refine Fr.set ?_ _ _ (.inl (by simp)))))) hfr3 (by simp)); (have hB3 := hfr3.keep HV.out (by simp)); obtain ⟨⟨y0, y1, y2, y3⟩, e0, e1, e2, e3⟩ := verd_cells hB3; (have ls3 := lt_of hB3); (have HF3 := Lib.hid (And.intro hF3 hB3)); clear hF3 hB3 hfr3)))
      all_goals go_wp2
      all_goals refine bodyPost_ret (v := .tuple #[.agg #[.int .i64 1, .int .i64 a, .int .i64 0, .bool false], .bool qr]) (by simp [results, Tryz.results38, go_sem, y0, y1, y2, y3, ls3]) rfl ?_
      all_goals have hW3 := HF3.out.1
      all_goals refine ⟨⟨1, a, 0, false⟩, qr, rfl, by (repeat (first | (with_reducible exact Fr.refl _ _) | (with_reducible assumption) | (with_reducible refine Fr.drew ?_) | (with_reducible refine Fr.drewN ?_ _) | (with_reducible refine Fr.alloc ?_ _) | (with_reducible refine Fr.mput ?_ _ _ _ (.inl (by simp))) | (with_reducible refine Fr.mdel ?_ _ _ (.inl (by simp))) | (with_reducible refine Fr.set ?_ _ _ (.inr (by first | omega | (dsimp only; omega)))) | (with_reducible refine Fr.set ?_ _ _ (.inl (by simp))))), ?_⟩
      all_goals rcases HW2.out.2.2 with ⟨h1, _⟩ | ⟨_, m, hm, hmax, rfl⟩
      all_goals first
        | (cases h1; done)
        | (cases qr with
          | true => exact .inl ⟨rfl, HQ.out.1, m, hm, hmax, rfl⟩
          | false => exact .inr ⟨rfl, .inr HQ.out.1⟩)
    | false =>
      go_wp2
      go_region
      all_goals go_wp2
      all_goals refine bodyPost_ret (v := .tuple #[.agg #[.int .i64 1, .int .i64 a, .int .i64 0, .bool false], .bool false]) (by simp [results, Tryz.results38, go_sem, z0, z1, z2, z3, hszW]) rfl ?_
      all_goals refine ⟨⟨1, a, 0, false⟩, false, rfl, by (repeat (first | (with_reducible exact Fr.refl _ _) | (with_reducible assumption) | (with_reducible refine Fr.drew ?_) | (with_reducible refine Fr.drewN ?_ _) | (with_reducible refine Fr.alloc ?_ _) | (with_reducible refine Fr.mput ?_ _ _ _ (.inl (by simp))) | (with_reducible refine Fr.mdel ?_ _ _ (.inl (by simp))) | (with_reducible refine Fr.set ?_ _ _ (.inr (by first | omega | (dsimp only; omega)))) | (with_reducible refine Fr.set ?_ _ _ (.inl (by simp))))), ?_⟩
      all_goals rcases HW2.out.2.2 with ⟨_, h0⟩ | ⟨h1, _⟩
      all_goals first
        | (cases h1; done)
        | exact .inr ⟨rfl, .inl h0⟩
end Go.Proofs.YthahlimmmnmniaaGreatDoor

namespace Go.Proofs.YthahlimmmnmniaaGreatDoor
open Go.RowKit Go.Fw

def BestUni (S : SibT) (now : Int) (w : World) (en : Ending) (w' : World) : Prop :=
  ∃ (a b c : Int) (ok : Bool), en = .returned (.tuple #[.agg #[.int .i64 a, .int .u32 b, .int .i64 c], .bool ok]) ∧ Fr [] w w' ∧
    ((ok = false ∧ ableL S now = []) ∨ (ok = true ∧ ∃ x ∈ ableL S now, (∀ y ∈ ableL S now, ltOf cmpSite y x = false) ∧ a = x.1))

theorem best_uni {w : World} {s sm rm : Nat} {T : SibT} (h : SibAt w s sm rm T) (ok : SOk T) (now : Int) :
    Calls Tryz.prog 16 #[.pointer (some ⟨s, 0, none⟩), .int .i64 now] w (BestUni T now w) := by
  refine (best_any h ok now).mono ?_
  rintro en w' ⟨hfr, ⟨h0, rfl⟩ | ⟨x, hx, hmin, rfl⟩⟩
  · exact ⟨0, 0, 0, false, rfl, hfr, .inl ⟨rfl, h0⟩⟩
  · exact ⟨_, _, _, true, rfl, hfr, .inr ⟨rfl, x, hx, hmin, rfl⟩⟩

set_option maxHeartbeats 2000000 in
theorem away_any {W : World} {s sm rm a0 a1 a2 : Nat} {S : SibT} {now : Int} {tun : Bool} (hS : SibAt W s sm rm S) (ok : SOk S)
    (c0 : W.cell? ⟨a0, 0, none⟩ = some (.pointer (some ⟨s, 0, none⟩))) (c1 : W.cell? ⟨a1, 0, none⟩ = some (.int .i64 now)) (c2 : W.cell? ⟨a2, 0, none⟩ = some (.bool tun)) :
    Calls Tryz.prog 40 #[.pointer (some ⟨a0, 0, none⟩), .pointer (some ⟨a1, 0, none⟩), .pointer (some ⟨a2, 0, none⟩)] W (RulePost (AwaySaid S now tun) W) := by
  have la0 := World.block_lt_of_cell? _ _ c0
  have la1 := World.block_lt_of_cell? _ _ c1
  have la2 := World.block_lt_of_cell? _ _ c2
  simp only at la0 la1 la2
  have hbs := fun o => best_uni (hS.fr (S := []) ((Fr.refl [] W).alloc o) (by simp) (by simp) (by simp)) ok now
  have HP := Lib.hid hbs
  clear hbs
  go_enter Tryz.func40, Tryz.ntmps40
  go_wp2_with fail
  refine (HP.out _).mono ?_
  rintro en w1 ⟨a, b, c, bo, rfl, hfr, hcase⟩
  have hF := Fr.trans (S := []) (a := W) (by (repeat (first | (with_reducible exact Fr.refl _ _) | (with_reducible assumption) | (with_reducible refine Fr.drew ?_) | (with_reducible refine Fr.drewN ?_ _) | (with_reducible refine Fr.alloc ?_ _) | (with_reducible refine Fr.mput ?_ _ _ _ (.inl (by simp))) | (with_reducible refine Fr.mdel ?_ _ _ (.inl (by simp))) | (with_reducible refine Fr.set ?_ _ _ (.inr (by first | omega | (dsimp only; omega)))) | (with_reducible refine Fr.set ?_ _ _ (.inl (by simp)))))) hfr (by simp)
  have hB := hfr.keep (k := W.heap.size) (o := .cells #[.int .i64 0, .int .i64 0, .int .i64 0, .bool false] 46 (0, 0)) (by rw [heap_alloc_if, if_pos (by simp)]) (by simp)
  obtain ⟨⟨z0, z1, z2, z3⟩, g0, g1, g2, g3⟩ := verd_cells hB
  have hsz := lt_of hB
  have d2 := (hF.cell (a := ⟨a2, 0, none⟩) la2 (by simp)).trans c2
  have la2' : a2 < w1.heap.size := Nat.lt_of_lt_of_le la2 hF.size
  have ne1 : ¬ (w1.heap.size = W.heap.size) := by omega
  have ne1' : ¬ (W.heap.size = w1.heap.size) := by omega
  have ne2 : ¬ (a2 = W.heap.size) := by omega
  have ne2' : ¬ (W.heap.size = a2) := by omega
  have HX := Lib.hid (And.intro hF (And.intro hB hcase))
  clear hB hcase hfr
  cases bo with
  | true =>
    go_wp2
    go_region
    all_goals go_wp2
    all_goals refine bodyPost_ret (v := .tuple #[.agg #[.int .i64 2, .int .i64 0, .int .i64 a, .bool false], .bool (!tun)]) (by simp [results, Tryz.results40, go_sem, z0, z1, z2, z3, hsz]) rfl ?_
    all_goals obtain ⟨_, hB, hcase⟩ := HX.out
    all_goals refine ⟨⟨2, 0, a, false⟩, !tun, rfl, by (repeat (first | (with_reducible exact Fr.refl _ _) | (with_reducible assumption) | (with_reducible refine Fr.drew ?_) | (with_reducible refine Fr.drewN ?_ _) | (with_reducible refine Fr.alloc ?_ _) | (with_reducible refine Fr.mput ?_ _ _ _ (.inl (by simp))) | (with_reducible refine Fr.mdel ?_ _ _ (.inl (by simp))) | (with_reducible refine Fr.set ?_ _ _ (.inr (by first | omega | (dsimp only; omega)))) | (with_reducible refine Fr.set ?_ _ _ (.inl (by simp))))), ?_⟩
    all_goals rcases hcase with ⟨h1, _⟩ | ⟨_, x, hx, hmin, rfl⟩
    all_goals first
      | (cases h1; done)
      | (cases tun with
        | true => exact .inr ⟨rfl, .inr rfl⟩
        | false => exact .inl ⟨rfl, rfl, x, hx, hmin, rfl⟩)
  | false =>
    go_wp2
    go_region
    all_goals go_wp2
    all_goals refine bodyPost_ret (v := .tuple #[.agg #[.int .i64 2, .int .i64 0, .int .i64 a, .bool false], .bool false]) (by simp [results, Tryz.results40, go_sem, z0, z1, z2, z3, hsz]) rfl ?_
    all_goals obtain ⟨_, hB, hcase⟩ := HX.out
    all_goals refine ⟨⟨2, 0, a, false⟩, false, rfl, by (repeat (first | (with_reducible exact Fr.refl _ _) | (with_reducible assumption) | (with_reducible refine Fr.drew ?_) | (with_reducible refine Fr.drewN ?_ _) | (with_reducible refine Fr.alloc ?_ _) | (with_reducible refine Fr.mput ?_ _ _ _ (.inl (by simp))) | (with_reducible refine Fr.mdel ?_ _ _ (.inl (by simp))) | (with_reducible refine Fr.set ?_ _ _ (.inr (by first | omega | (dsimp only; omega)))) | (with_reducible refine Fr.set ?_ _ _ (.inl (by simp))))), ?_⟩
    all_goals rcases hcase with ⟨_, h0⟩ | ⟨h1, _⟩
    all_goals first
      | (cases h1; done)
      | exact .inr ⟨rfl, .inl h0⟩
end Go.Proofs.YthahlimmmnmniaaGreatDoor

namespace Go.Proofs.YthahlimmmnmniaaGreatDoor
open Go.RowKit Go.Fw

def FirstPost (R1 R2 R3 : Verd → Bool → Prop) (w : World) (en : Ending) (w' : World) : Prop :=
  ∃ v : Verd, en = .returned v.val ∧ Fr [] w w' ∧
    (R1 v true ∨ (∃ v1, R1 v1 false) ∧ (R2 v true ∨ (∃ v2, R2 v2 false) ∧ (R3 v true ∨ ((∃ v3, R3 v3 false) ∧ v = ⟨0, 0, 0, false⟩))))

set_option maxHeartbeats 4000000 in
theorem first_any {w : World} {bk : Nat} {x1 x2 x3 x4 x5 x6 x7 x8 : Value} {R1 R2 R3 : Verd → Bool → Prop}
    (c0 : w.cell? ⟨bk, 0, none⟩ = some (.func (.func 37) #[] #[x1, x2, x3])) (c1 : w.cell? ⟨bk, 1, none⟩ = some (.func (.func 38) #[] #[x4, x5])) (c2 : w.cell? ⟨bk, 2, none⟩ = some (.func (.func 40) #[] #[x6, x7, x8]))
    (h1 : ∀ W, Fr [] w W → Calls Tryz.prog 37 #[x1, x2, x3] W (RulePost R1 W))
    (h2 : ∀ W, Fr [] w W → Calls Tryz.prog 38 #[x4, x5] W (RulePost R2 W))
    (h3 : ∀ W, Fr [] w W → Calls Tryz.prog 40 #[x6, x7, x8] W (RulePost R3 W)) :
    Calls Tryz.prog 41 #[.slice (some ⟨bk, 0, none⟩) 3 3] w (FirstPost R1 R2 R3 w) := by
  have lb := World.block_lt_of_cell? _ _ c0
  simp only at lb
  have HC := Lib.hid (And.intro h1 (And.intro h2 h3))
  clear h1 h2 h3
  go_enter Tryz.func41, Tryz.ntmps41
  go_wp2
  refine wp_loop_rounds 4 ?_
  rw [rounds_succ]
  go_wp2_with fail
  refine (HC.out.1 _ ?_).mono ?_
  · (repeat (first | (with_reducible exact Fr.refl _ _) | (with_reducible assumption) | (with_reducible refine Fr.drew ?_) | (with_reducible refine Fr.drewN ?_ _) | (with_reducible refine Fr.alloc ?_ _) | (with_reducible refine Fr.mput ?_ _ _ _ (.inl (by simp))) | (with_reducible refine Fr.mdel ?_ _ _ (.inl (by simp))) | (with_reducible refine Fr.set ?_ _ _ (.inr (by first | omega | (dsimp only; omega)))) | (with_reducible refine Fr.set ?_ _ _ (.inl (by simp)))))
  rintro en w1 ⟨v1, b1, rfl, hfr, hR1⟩
  unfold Verd.val
  have hF1 := Fr.trans (S := []) (a := w) (by (repeat (first | (with_reducible exact Fr.refl _ _) | (with_reducible assumption) | (with_reducible refine Fr.drew ?_) | (with_reducible refine Fr.drewN ?_ _) | (with_reducible refine Fr.alloc ?_ _) | (with_reducible refine Fr.mput ?_ _ _ _ (.inl (by simp))) | (with_reducible refine Fr.mdel ?_ _ _ (.inl (by simp))) | (with_reducible refine Fr.set ?_ _ _ (.inr (by first | omega | (dsimp only; omega)))) | (with_reducible refine Fr.set ?_ _ _ (.inl (by simp)))))) hfr (by simp)
  have hB1 := hfr.keep (k := w.heap.size) (o := .cells #[.int .i64 0, .int .i64 0, .int .i64 0, .bool false] 46 (0, 0)) (by rw [heap_alloc_if, if_pos (by simp)]) (by simp)
  obtain ⟨⟨z10, z11, z12, z13⟩, g10, g11, g12, g13⟩ := verd_cells hB1
  have hsz1 := lt_of hB1
  have k10 := (hF1.cell (a := ⟨bk, 0, none⟩) lb (by simp)).trans c0
  have k11 := (hF1.cell (a := ⟨bk, 1, none⟩) lb (by simp)).trans c1
  have k12 := (hF1.cell (a := ⟨bk, 2, none⟩) lb (by simp)).trans c2
  have lb1 : bk < w1.heap.size := Nat.lt_of_lt_of_le lb hF1.size
  have HB1 := Lib.hid hB1
  have HR1 := Lib.hid hR1
  clear hfr hB1 hR1
  cases b1 with
  | true =>
    go_wp2
    refine bodyPost_ret (v := .agg #[.int .i64 v1.kind, .int .i64 v1.backend, .int .i64 v1.site, .bool v1.known]) (by simp [results, Tryz.results41, go_sem, z10, z11, z12, z13, hsz1]) rfl ?_
    exact ⟨v1, rfl, by (repeat (first | (with_reducible exact Fr.refl _ _) | (with_reducible assumption) | (with_reducible refine Fr.drew ?_) | (with_reducible refine Fr.drewN ?_ _) | (with_reducible refine Fr.alloc ?_ _) | (with_reducible refine Fr.mput ?_ _ _ _ (.inl (by simp))) | (with_reducible refine Fr.mdel ?_ _ _ (.inl (by simp))) | (with_reducible refine Fr.set ?_ _ _ (.inr (by first | omega | (dsimp only; omega)))) | (with_reducible refine Fr.set ?_ _ _ (.inl (by simp))))), by exact .inl HR1.out⟩
  | false =>
    go_wp2
    rw [rounds_succ]
    go_wp2_with fail
    refine (HC.out.2.1 _ ?_).mono ?_
    · (repeat (first | (with_reducible exact Fr.refl _ _) | (with_reducible assumption) | (with_reducible refine Fr.drew ?_) | (with_reducible refine Fr.drewN ?_ _) | (with_reducible refine Fr.alloc ?_ _) | (with_reducible refine Fr.mput ?_ _ _ _ (.inl (by simp))) | (with_reducible refine Fr.mdel ?_ _ _ (.inl (by simp))) | (with_reducible refine Fr.set ?_ _ _ (.inr (by first | omega | (dsimp only; omega)))) | (with_reducible refine Fr.set ?_ _ _ (.inl (by simp)))))
    rintro en w2 ⟨v2, b2, rfl, hfr, hR2⟩
    unfold Verd.val
    have hF2 := Fr.trans (S := []) (a := w) (by (repeat (first | (with_reducible exact Fr.refl _ _) | (with_reducible assumption) | (with_reducible refine Fr.drew ?_) | (with_reducible refine Fr.drewN ?_ _) | (with_reducible refine Fr.alloc ?_ _) | (with_reducible refine Fr.mput ?_ _ _ _ (.inl (by simp))) | (with_reducible refine Fr.mdel ?_ _ _ (.inl (by simp))) | (with_reducible refine Fr.set ?_ _ _ (.inr (by first | omega | (dsimp only; omega)))) | (with_reducible refine Fr.set ?_ _ _ (.inl (by simp)))))) hfr (by simp)
    have hB2 := hfr.keep (k := w.heap.size) (o := .cells #[.int .i64 0, .int .i64 0, .int .i64 0, .bool false] 46 (0, 0)) (by rw [heap_alloc_if, if_neg (by omega)]; exact HB1.out) (by simp)
    obtain ⟨⟨z20, z21, z22, z23⟩, g20, g21, g22, g23⟩ := verd_cells hB2
    have hsz2 := lt_of hB2
    have k20 := (hF2.cell (a := ⟨bk, 0, none⟩) lb (by simp)).trans c0
    have k21 := (hF2.cell (a := ⟨bk, 1, none⟩) lb (by simp)).trans c1
    have k22 := (hF2.cell (a := ⟨bk, 2, none⟩) lb (by simp)).trans c2
    have lb2 : bk < w2.heap.size := Nat.lt_of_lt_of_le lb hF2.size
    have HB2 := Lib.hid hB2
    have HR2 := Lib.hid hR2
    clear hfr hB2 hR2
    cases b2 with
    | true =>
      go_wp2
      refine bodyPost_ret (v := .agg #[.int .i64 v2.kind, .int .i64 v2.backend, .int .i64 v2.site, .bool v2.known]) (by simp [results, Tryz.results41, go_sem, z20, z21, z22, z23, hsz2]) rfl ?_
      exact ⟨v2, rfl, by (repeat (first | (with_reducible exact Fr.refl _ _) | (with_reducible assumption) | (with_reducible refine Fr.drew ?_) | (with_reducible refine Fr.drewN ?_ _) | (with_reducible refine Fr.alloc ?_ _) | (with_reducible refine Fr.mput ?_ _ _ _ (.inl (by simp))) | (with_reducible refine Fr.mdel ?_ _ _ (.inl (by simp))) | (with_reducible refine Fr.set ?_ _ _ (.inr (by first | omega | (dsimp only; omega)))) | (with_reducible refine Fr.set ?_ _ _ (.inl (by simp))))), .inr ⟨⟨_, HR1.out⟩, .inl HR2.out⟩⟩
    | false =>
      go_wp2
      rw [rounds_succ]
      go_wp2_with fail
      refine (HC.out.2.2 _ ?_).mono ?_
      · (repeat (first | (with_reducible exact Fr.refl _ _) | (with_reducible assumption) | (with_reducible refine Fr.drew ?_) | (with_reducible refine Fr.drewN ?_ _) | (with_reducible refine Fr.alloc ?_ _) | (with_reducible refine Fr.mput ?_ _ _ _ (.inl (by simp))) | (with_reducible refine Fr.mdel ?_ _ _ (.inl (by simp))) | (with_reducible refine Fr.set ?_ _ _ (.inr (by first | omega | (dsimp only; omega)))) | (with_reducible refine Fr.set ?_ _ _ (.inl (by simp)))))
      rintro en w3 ⟨v3, b3, rfl, hfr, hR3⟩
      unfold Verd.val
      have hF3 := Fr.trans (S := []) (a := w) (by (repeat (first | (with_reducible exact Fr.refl _ _) | (with_reducible assumption) | (with_reducible refine Fr.drew ?_) | (with_reducible refine Fr.drewN ?_ _) | (with_reducible refine Fr.alloc ?_ _) | (with_reducible refine Fr.mput ?_ _ _ _ (.inl (by simp))) | (with_reducible refine Fr.mdel ?_ _ _ (.inl (by simp))) | (with_reducible refine Fr.set ?_ _ _ (.inr (by first | omega | (dsimp only; omega)))) | (with_reducible refine Fr.set ?_ _ _ (.inl (by simp)))))) hfr (by simp)
      have hB3 := hfr.keep (k := w.heap.size) (o := .cells #[.int .i64 0, .int .i64 0, .int .i64 0, .bool false] 46 (0, 0)) (by rw [heap_alloc_if, if_neg (by omega)]; exact HB2.out) (by simp)
      obtain ⟨⟨z30, z31, z32, z33⟩, g30, g31, g32, g33⟩ := verd_cells hB3
      have hsz3 := lt_of hB3
      have k30 := (hF3.cell (a := ⟨bk, 0, none⟩) lb (by simp)).trans c0
      have k31 := (hF3.cell (a := ⟨bk, 1, none⟩) lb (by simp)).trans c1
      have k32 := (hF3.cell (a := ⟨bk, 2, none⟩) lb (by simp)).trans c2
      have lb3 : bk < w3.heap.size := Nat.lt_of_lt_of_le lb hF3.size
      have HB3 := Lib.hid hB3
      have HR3 := Lib.hid hR3
      clear hfr hB3 hR3
      cases b3 with
      | true =>
        go_wp2
        refine bodyPost_ret (v := .agg #[.int .i64 v3.kind, .int .i64 v3.backend, .int .i64 v3.site, .bool v3.known]) (by simp [results, Tryz.results41, go_sem, z30, z31, z32, z33, hsz3]) rfl ?_
        exact ⟨v3, rfl, by (repeat (first | (with_reducible exact Fr.refl _ _) | (with_reducible assumption) | (with_reducible refine Fr.drew ?_) | (with_reducible refine Fr.drewN ?_ _) | (with_reducible refine Fr.alloc ?_ _) | (with_reducible refine Fr.mput ?_ _ _ _ (.inl (by simp))) | (with_reducible refine Fr.mdel ?_ _ _ (.inl (by simp))) | (with_reducible refine Fr.set ?_ _ _ (.inr (by first | omega | (dsimp only; omega)))) | (with_reducible refine Fr.set ?_ _ _ (.inl (by simp))))), .inr ⟨⟨_, HR1.out⟩, .inr ⟨⟨_, HR2.out⟩, .inl HR3.out⟩⟩⟩
      | false =>
        go_wp2
        rw [rounds_succ]
        go_wp2
        refine bodyPost_ret (v := .agg #[.int .i64 0, .int .i64 0, .int .i64 0, .bool false]) (by simp [results, Tryz.results41, go_sem, z30, z31, z32, z33, hsz3]) rfl ?_
        exact ⟨⟨0, 0, 0, false⟩, rfl, by (repeat (first | (with_reducible exact Fr.refl _ _) | (with_reducible assumption) | (with_reducible refine Fr.drew ?_) | (with_reducible refine Fr.drewN ?_ _) | (with_reducible refine Fr.alloc ?_ _) | (with_reducible refine Fr.mput ?_ _ _ _ (.inl (by simp))) | (with_reducible refine Fr.mdel ?_ _ _ (.inl (by simp))) | (with_reducible refine Fr.set ?_ _ _ (.inr (by first | omega | (dsimp only; omega)))) | (with_reducible refine Fr.set ?_ _ _ (.inl (by simp))))), .inr ⟨⟨_, HR1.out⟩, .inr ⟨⟨_, HR2.out⟩, .inr ⟨⟨_, HR3.out⟩, rfl⟩⟩⟩⟩
end Go.Proofs.YthahlimmmnmniaaGreatDoor

namespace Go.Proofs.YthahlimmmnmniaaGreatDoor
open Go.RowKit Go.Fw

/-- The tables that are decided with, in memory. -/
structure BalAt (w : World) (t : Nat) (O : List Nat) (T : FTab) (p pb : Nat) (P : PoolT) (s sm rm : Nat) (S : SibT) : Prop where
  flows : FlowsAt w t O T
  pool : PoolAt w p pb P
  pok : POk P
  p0 : 1 ≤ P.percent
  p1 : P.percent ≤ 100
  sib : SibAt w s sm rm S
  sok : SOk S
  apart : p ∉ O ∧ pb ∉ O ∧ s ∉ O ∧ sm ∉ O ∧ rm ∉ O

theorem BalAt.fr {w w' : World} {t p pb s sm rm : Nat} {O : List Nat} {T : FTab} {P : PoolT} {S : SibT} (h : BalAt w t O T p pb P s sm rm S) (hf : Fr [] w w') : BalAt w' t O T p pb P s sm rm S :=
  ⟨h.flows.fr hf (by simp), h.pool.fr hf (by simp) (by simp), h.pok, h.p0, h.p1, h.sib.fr hf (by simp) (by simp) (by simp), h.sok, h.apart⟩

def WouldSaid (T : FTab) (P : PoolT) (S : SibT) (f : Flow) (now : Int) (tun : Bool) (v : Verd) : Prop :=
  KnownSaid T P f v true ∨ (∃ v1, KnownSaid T P f v1 false) ∧ (LocalSaid P f v true ∨ (∃ v2, LocalSaid P f v2 false) ∧ (AwaySaid S now tun v true ∨ ((∃ v3, AwaySaid S now tun v3 false) ∧ v = ⟨0, 0, 0, false⟩)))

def WouldPost (T : FTab) (P : PoolT) (S : SibT) (f : Flow) (now : Int) (tun : Bool) (w : World) (en : Ending) (w' : World) : Prop :=
  ∃ v : Verd, en = .returned v.val ∧ Fr [] w w' ∧ WouldSaid T P S f now tun v

set_option maxHeartbeats 4000000 in
theorem would_any {w : World} {t p pb s sm rm : Nat} {O : List Nat} {T : FTab} {P : PoolT} {S : SibT} (h : BalAt w t O T p pb P s sm rm S) (f : Flow) (now : Int) (tun : Bool) :
    Calls Tryz.prog 8 #[.pointer (some ⟨t, 0, none⟩), .pointer (some ⟨p, 0, none⟩), .pointer (some ⟨s, 0, none⟩), .agg #[.int .i64 f.proto, .int .u32 f.src, .int .u32 f.dst, .int .i64 f.sport, .int .i64 f.dport], .int .i64 now, .bool tun] w (WouldPost T P S f now tun w) := by
  have H := Lib.hid h
  clear h
  go_enter Tryz.func8, Tryz.ntmps8
  go_wp2_with fail
  refine (first_any (x1 := (.pointer (some ⟨w.heap.size, 0, none⟩))) (x2 := (.pointer (some ⟨w.heap.size + 1 + 1 + 1, 0, none⟩))) (x3 := (.pointer (some ⟨w.heap.size + 1, 0, none⟩))) (x4 := (.pointer (some ⟨w.heap.size + 1 + 1 + 1, 0, none⟩))) (x5 := (.pointer (some ⟨w.heap.size + 1, 0, none⟩))) (x6 := (.pointer (some ⟨w.heap.size + 1 + 1, 0, none⟩))) (x7 := (.pointer (some ⟨w.heap.size + 1 + 1 + 1 + 1, 0, none⟩))) (x8 := (.pointer (some ⟨w.heap.size + 1 + 1 + 1 + 1 + 1, 0, none⟩))) (R1 := KnownSaid T P f) (R2 := LocalSaid P f) (R3 := AwaySaid S now tun) ?_ ?_ ?_ ?_ ?_ ?_).mono ?_
  · go_simp
  · go_simp
  · go_simp
  · intro W hW
    have hFw := Fr.trans (S := []) (a := w) (by (repeat (first | (with_reducible exact Fr.refl _ _) | (with_reducible assumption) | (with_reducible refine Fr.drew ?_) | (with_reducible refine Fr.drewN ?_ _) | (with_reducible refine Fr.alloc ?_ _) | (with_reducible refine Fr.mput ?_ _ _ _ (.inl (by simp))) | (with_reducible refine Fr.mdel ?_ _ _ (.inl (by simp))) | (with_reducible refine Fr.set ?_ _ _ (.inr (by first | omega | (dsimp only; omega)))) | (with_reducible refine Fr.set ?_ _ _ (.inl (by simp)))))) hW (by simp)
    have hB := H.out.fr hFw
    refine known_any hB.flows hB.pool ?_ ?_ ?_
    · exact (hW.cell (by simp <;> omega) (by simp)).trans (by go_simp)
    · exact hW.keep (by (try simp only [heap_drewN, heap_drew, heap_alloc_if, World.size_alloc, World.size_setCell, size_mput, size_mdel]); (first | (simp; done) | (simp [zeroEntry]; done) | (simp; omega) | (simp [zeroEntry]; omega))) (by simp)
    · exact (hW.cell (by simp <;> omega) (by simp)).trans (by go_simp)
  · intro W hW
    have hFw := Fr.trans (S := []) (a := w) (by (repeat (first | (with_reducible exact Fr.refl _ _) | (with_reducible assumption) | (with_reducible refine Fr.drew ?_) | (with_reducible refine Fr.drewN ?_ _) | (with_reducible refine Fr.alloc ?_ _) | (with_reducible refine Fr.mput ?_ _ _ _ (.inl (by simp))) | (with_reducible refine Fr.mdel ?_ _ _ (.inl (by simp))) | (with_reducible refine Fr.set ?_ _ _ (.inr (by first | omega | (dsimp only; omega)))) | (with_reducible refine Fr.set ?_ _ _ (.inl (by simp)))))) hW (by simp)
    have hB := H.out.fr hFw
    refine local_any hB.pool hB.pok hB.p0 hB.p1 ?_ ?_
    · exact hW.keep (by (try simp only [heap_drewN, heap_drew, heap_alloc_if, World.size_alloc, World.size_setCell, size_mput, size_mdel]); (first | (simp; done) | (simp [zeroEntry]; done) | (simp; omega) | (simp [zeroEntry]; omega))) (by simp)
    · exact (hW.cell (by simp <;> omega) (by simp)).trans (by go_simp)
  · intro W hW
    have hFw := Fr.trans (S := []) (a := w) (by (repeat (first | (with_reducible exact Fr.refl _ _) | (with_reducible assumption) | (with_reducible refine Fr.drew ?_) | (with_reducible refine Fr.drewN ?_ _) | (with_reducible refine Fr.alloc ?_ _) | (with_reducible refine Fr.mput ?_ _ _ _ (.inl (by simp))) | (with_reducible refine Fr.mdel ?_ _ _ (.inl (by simp))) | (with_reducible refine Fr.set ?_ _ _ (.inr (by first | omega | (dsimp only; omega)))) | (with_reducible refine Fr.set ?_ _ _ (.inl (by simp)))))) hW (by simp)
    have hB := H.out.fr hFw
    refine away_any hB.sib hB.sok ?_ ?_ ?_
    · exact (hW.cell (by simp <;> omega) (by simp)).trans (by go_simp)
    · exact (hW.cell (by simp <;> omega) (by simp)).trans (by go_simp)
    · exact (hW.cell (by simp <;> omega) (by simp)).trans (by go_simp)
  · rintro en w1 ⟨v, rfl, hfr, hsaid⟩
    unfold Verd.val
    have hF := Fr.trans (S := []) (a := w) (by (repeat (first | (with_reducible exact Fr.refl _ _) | (with_reducible assumption) | (with_reducible refine Fr.drew ?_) | (with_reducible refine Fr.drewN ?_ _) | (with_reducible refine Fr.alloc ?_ _) | (with_reducible refine Fr.mput ?_ _ _ _ (.inl (by simp))) | (with_reducible refine Fr.mdel ?_ _ _ (.inl (by simp))) | (with_reducible refine Fr.set ?_ _ _ (.inr (by first | omega | (dsimp only; omega)))) | (with_reducible refine Fr.set ?_ _ _ (.inl (by simp)))))) hfr (by simp)
    have hB := hfr.keep (k := w.heap.size + 1 + 1 + 1 + 1 + 1 + 1) (o := .cells #[.int .i64 0, .int .i64 0, .int .i64 0, .bool false] 46 (0, 0)) (by (try simp only [heap_drewN, heap_drew, heap_alloc_if, World.size_alloc, World.size_setCell, size_mput, size_mdel]); (first | (simp; done) | (simp [zeroEntry]; done) | (simp; omega) | (simp [zeroEntry]; omega))) (by simp)
    obtain ⟨⟨z0, z1, z2, z3⟩, g0, g1, g2, g3⟩ := verd_cells hB
    have hsz := lt_of hB
    have HX := Lib.hid hsaid
    clear hB hfr hsaid
    go_wp2
    refine bodyPost_ret (v := .agg #[.int .i64 v.kind, .int .i64 v.backend, .int .i64 v.site, .bool v.known]) (by simp [results, Tryz.results8, go_sem, z0, z1, z2, z3, hsz]) rfl ?_
    exact ⟨v, rfl, by (repeat (first | (with_reducible exact Fr.refl _ _) | (with_reducible assumption) | (with_reducible refine Fr.drew ?_) | (with_reducible refine Fr.drewN ?_ _) | (with_reducible refine Fr.alloc ?_ _) | (with_reducible refine Fr.mput ?_ _ _ _ (.inl (by simp))) | (with_reducible refine Fr.mdel ?_ _ _ (.inl (by simp))) | (with_reducible refine Fr.set ?_ _ _ (.inr (by first | omega | (dsimp only; omega)))) | (with_reducible refine Fr.set ?_ _ _ (.inl (by simp))))), HX.out⟩
end Go.Proofs.YthahlimmmnmniaaGreatDoor

namespace Go.Proofs.YthahlimmmnmniaaGreatDoor
open Go.RowKit Go.Fw

/-- What a call that may change the flow table alone leaves of all. -/
def BalPost (w : World) (t : Nat) (O : List Nat) (p pb : Nat) (P : PoolT) (s sm rm : Nat) (S : SibT) (R : FTab → Prop) (w' : World) : Prop :=
  ∃ O' T', BalAt w' t O' T' p pb P s sm rm S ∧ (∀ x ∈ O', x ∈ O ∨ w.heap.size ≤ x) ∧ Fr O w w' ∧ R T'

theorem BalAt.after {w w' : World} {t p pb s sm rm : Nat} {O : List Nat} {T : FTab} {P : PoolT} {S : SibT} {R : FTab → Prop} (h : BalAt w t O T p pb P s sm rm S) (hp : FlowsPost w t O R w') : BalPost w t O p pb P s sm rm S R w' := by
  obtain ⟨O', T', h1, h2, h3, h4⟩ := hp
  obtain ⟨a1, a2, a3, a4, a5⟩ := h.apart
  refine ⟨O', T', ⟨h1, h.pool.fr h3 a1 a2, h.pok, h.p0, h.p1, h.sib.fr h3 a3 a4 a5, h.sok, ?_⟩, h2, h3, h4⟩
  have e1 := lt_of h.pool.pool
  have e2 := h.pool.map.lt
  have e3 := lt_of h.sib.tab
  have e4 := h.sib.sites.lt
  have e5 := h.sib.reps.lt
  refine ⟨fun hc => ?_, fun hc => ?_, fun hc => ?_, fun hc => ?_, fun hc => ?_⟩
  all_goals rcases h2 _ hc with h | h
  all_goals first
    | contradiction
    | omega

theorem post_lift {w w1 w2 wf : World} {t c : Nat} {O : List Nat} {R R' : FTab → Prop} (hF : Fr [] w w1) (hp : FlowsPost w1 t O R w2) (hf : Fr [c] w2 wf) (hc0 : w.heap.size ≤ c) (hc : c < w1.heap.size) (hO : ∀ q ∈ O, q < w.heap.size) (hR : ∀ T, R T → R' T) : FlowsPost w t O R' wf := by
  obtain ⟨O', T', h1, h2, h3, h4⟩ := hp
  have hs := hF.size
  refine ⟨O', T', h1.fr hf (fun q hq hcc => ?_), fun x hx => ?_, ((hF.mono (S' := O) (by simp)).trans h3 (fun x hx => .inl hx)).trans hf (fun x hx => ?_), hR _ h4⟩
  · simp only [List.mem_singleton] at hcc
    subst hcc
    rcases h2 _ hq with h | h
    · have := hO _ h; omega
    · omega
  · rcases h2 _ hx with h | h
    · exact .inl h
    · exact .inr (by omega)
  · simp only [List.mem_singleton] at hx
    subst hx
    exact .inr hc0

def DecidePost (T : FTab) (P : PoolT) (S : SibT) (f : Flow) (now : Int) (tun : Bool) (w : World) (t : Nat) (O : List Nat) (p pb s sm rm : Nat) (en : Ending) (w' : World) : Prop :=
  ∃ v : Verd, en = .returned v.val ∧ WouldSaid T P S f now tun v ∧ BalPost w t O p pb P s sm rm S (fun T' => v.kind = 1 → Goes T' f v.backend) w'

set_option maxHeartbeats 4000000 in
theorem decide_any {w : World} {t p pb s sm rm : Nat} {O : List Nat} {T : FTab} {P : PoolT} {S : SibT} (h : BalAt w t O T p pb P s sm rm S) (f : Flow) (now : Int) (tun : Bool) :
    Calls Tryz.prog 17 #[.pointer (some ⟨t, 0, none⟩), .pointer (some ⟨p, 0, none⟩), .pointer (some ⟨s, 0, none⟩), .agg #[.int .i64 f.proto, .int .u32 f.src, .int .u32 f.dst, .int .i64 f.sport, .int .i64 f.dport], .int .i64 now, .bool tun] w (DecidePost T P S f now tun w t O p pb s sm rm) := by
  have hw := fun o o' => would_any (h.fr (((Fr.refl [] w).alloc o).alloc o')) f now tun
  have H := Lib.hid (And.intro h hw)
  clear h hw
  go_enter Tryz.func17, Tryz.ntmps17
  go_wp2_with fail
  refine (H.out.2 _ _).mono ?_
  rintro en w1 ⟨v, rfl, hfr, hsaid⟩
  unfold Verd.val
  have hF := Fr.trans (S := []) (a := w) (by (repeat (first | (with_reducible exact Fr.refl _ _) | (with_reducible assumption) | (with_reducible refine Fr.drew ?_) | (with_reducible refine Fr.drewN ?_ _) | (with_reducible refine Fr.alloc ?_ _) | (with_reducible refine Fr.mput ?_ _ _ _ (.inl (by simp))) | (with_reducible refine Fr.mdel ?_ _ _ (.inl (by simp))) | (with_reducible refine Fr.set ?_ _ _ (.inr (by first | omega | (dsimp only; omega)))) | (with_reducible refine Fr.set ?_ _ _ (.inl (by simp)))))) hfr (by simp)
  have hB := hfr.keep (k := w.heap.size + 1) (o := .cells #[.int .i64 0, .int .i64 0, .int .i64 0, .bool false] 46 (0, 0)) (by rw [heap_alloc_if, if_pos (by simp)]) (by simp)
  have hfl := hfr.keep (k := w.heap.size) (o := .cells #[.int .i64 f.proto, .int .u32 f.src, .int .u32 f.dst, .int .i64 f.sport, .int .i64 f.dport] 31 (0, 0)) (by rw [heap_alloc_if, if_neg (by simp), heap_alloc_if, if_pos rfl]) (by simp)
  obtain ⟨v0, v1, v2, v3, v4⟩ := flow_cells' hfl
  have hsz := lt_of hB
  have hfs := lt_of hfl
  have hb := H.out.1.fr hF
  have HX := Lib.hid (And.intro hF (And.intro hB (And.intro hb hsaid)))
  have hkind : (∃ x, Goes T f x ∧ v = ⟨1, x, 0, true⟩) ∨ (∃ x, v = ⟨1, x, 0, false⟩) ∨ (∃ k x, k ≠ 1 ∧ v = ⟨k, 0, x, false⟩) := by
    rcases hsaid with (⟨_, x, h1, _, rfl⟩ | ⟨h, _⟩) | ⟨_, (⟨_, _, m, _, _, rfl⟩ | ⟨h, _⟩) | ⟨_, (⟨_, _, x, _, _, rfl⟩ | ⟨h, _⟩) | ⟨_, rfl⟩⟩⟩
    · exact .inl ⟨x, h1, rfl⟩
    · cases h
    · exact .inr (.inl ⟨_, rfl⟩)
    · cases h
    · exact .inr (.inr ⟨2, _, by decide, rfl⟩)
    · cases h
    · exact .inr (.inr ⟨0, 0, by decide, rfl⟩)
  clear hF hB hfl hb hsaid hfr
  rcases hkind with ⟨x, hgo, rfl⟩ | ⟨x, rfl⟩ | ⟨k, x, hk, rfl⟩
  · have HG := Lib.hid hgo
    clear hgo
    simp only
    go_wp2_with fail
    refine (get_f ((HX.out.2.2.1.fr (((Fr.refl [] w1).alloc _).alloc _)).flows) f x now HG.out).mono ?_
    rintro en w2 ⟨rfl, hpost⟩
    obtain ⟨hF, hB, hb, hsaid⟩ := HX.out
    have hO := fun q hq => H.out.1.flows.lt q hq
    have hpost' := hpost
    obtain ⟨O', T', q1, q2, q3, q4⟩ := hpost
    have hV := q3.keep (k := w1.heap.size) (o := .cells #[.int .i64 1, .int .i64 x, .int .i64 0, .bool true] 46 (0, 0)) (by rw [heap_alloc_if, if_neg (by simp), heap_alloc_if, if_pos rfl]) (fun hc => by have := hO _ hc; have := hF.size; omega)
    have hB2 := q3.keep (k := w.heap.size + 1) (o := .cells #[.int .i64 0, .int .i64 0, .int .i64 0, .bool false] 46 (0, 0)) (by rw [heap_alloc_if, if_neg (by simp; omega), heap_alloc_if, if_neg (by omega)]; exact hB) (fun hc => by have := hO _ hc; omega)
    obtain ⟨⟨y0, y1, y2, y3⟩, _⟩ := verd_cells hV
    obtain ⟨⟨z0, z1, z2, z3⟩, g0, g1, g2, g3⟩ := verd_cells hB2
    have s1 := lt_of hV
    have s2 := lt_of hB2
    have HZ := Lib.hid (And.intro hpost' hO)
    clear hF hB hb hsaid hO q1 q2 q3 q4 hV hB2 hpost'
    go_wp2
    refine bodyPost_ret (v := .agg #[.int .i64 1, .int .i64 x, .int .i64 0, .bool true]) (by simp [results, Tryz.results17, go_sem, z0, z1, z2, z3, s2]) rfl ?_
    obtain ⟨hF, hB, hb, hsaid⟩ := HX.out
    refine ⟨⟨1, x, 0, true⟩, rfl, hsaid, H.out.1.after (post_lift (c := w.heap.size + 1) ?_ HZ.out.1 ?_ (by omega) ?_ HZ.out.2 ?_)⟩
    · (repeat (first | (with_reducible exact Fr.refl _ _) | (with_reducible assumption) | (with_reducible refine Fr.drew ?_) | (with_reducible refine Fr.drewN ?_ _) | (with_reducible refine Fr.alloc ?_ _) | (with_reducible refine Fr.mput ?_ _ _ _ (.inl (by simp))) | (with_reducible refine Fr.mdel ?_ _ _ (.inl (by simp))) | (with_reducible refine Fr.set ?_ _ _ (.inr (by first | omega | (dsimp only; omega)))) | (with_reducible refine Fr.set ?_ _ _ (.inl (by simp)))))
    · (repeat (first | (with_reducible exact Fr.refl _ _) | (with_reducible assumption) | (with_reducible refine Fr.drew ?_) | (with_reducible refine Fr.drewN ?_ _) | (with_reducible refine Fr.alloc ?_ _) | (with_reducible refine Fr.mput ?_ _ _ _ (.inl (by simp))) | (with_reducible refine Fr.mdel ?_ _ _ (.inl (by simp))) | (with_reducible refine Fr.set ?_ _ _ (.inr (by first | omega | (dsimp only; omega)))) | (with_reducible refine Fr.set ?_ _ _ (.inl (by simp)))))
    · simp; omega
    · exact fun T h _ => h
  · simp only
    go_wp2_with fail
    refine (put_f ((HX.out.2.2.1.fr (((Fr.refl [] w1).alloc _).alloc _)).flows) f x now).mono ?_
    rintro en w2 ⟨⟨vv, rfl⟩, hpost⟩
    obtain ⟨hF, hB, hb, hsaid⟩ := HX.out
    have hO := fun q hq => H.out.1.flows.lt q hq
    have hpost' := hpost
    obtain ⟨O', T', q1, q2, q3, q4⟩ := hpost
    have hV := q3.keep (k := w1.heap.size) (o := .cells #[.int .i64 1, .int .i64 x, .int .i64 0, .bool false] 46 (0, 0)) (by rw [heap_alloc_if, if_neg (by simp), heap_alloc_if, if_pos rfl]) (fun hc => by have := hO _ hc; have := hF.size; omega)
    have hB2 := q3.keep (k := w.heap.size + 1) (o := .cells #[.int .i64 0, .int .i64 0, .int .i64 0, .bool false] 46 (0, 0)) (by rw [heap_alloc_if, if_neg (by simp; omega), heap_alloc_if, if_neg (by omega)]; exact hB) (fun hc => by have := hO _ hc; omega)
    obtain ⟨⟨y0, y1, y2, y3⟩, _⟩ := verd_cells hV
    obtain ⟨⟨z0, z1, z2, z3⟩, g0, g1, g2, g3⟩ := verd_cells hB2
    have s1 := lt_of hV
    have s2 := lt_of hB2
    have HZ := Lib.hid (And.intro hpost' hO)
    clear hF hB hb hsaid hO q1 q2 q3 q4 hV hB2 hpost'
    go_wp2
    refine bodyPost_ret (v := .agg #[.int .i64 1, .int .i64 x, .int .i64 0, .bool false]) (by simp [results, Tryz.results17, go_sem, z0, z1, z2, z3, s2]) rfl ?_
    obtain ⟨hF, hB, hb, hsaid⟩ := HX.out
    refine ⟨⟨1, x, 0, false⟩, rfl, hsaid, H.out.1.after (post_lift (c := w.heap.size + 1) ?_ HZ.out.1 ?_ (by omega) ?_ HZ.out.2 ?_)⟩
    · (repeat (first | (with_reducible exact Fr.refl _ _) | (with_reducible assumption) | (with_reducible refine Fr.drew ?_) | (with_reducible refine Fr.drewN ?_ _) | (with_reducible refine Fr.alloc ?_ _) | (with_reducible refine Fr.mput ?_ _ _ _ (.inl (by simp))) | (with_reducible refine Fr.mdel ?_ _ _ (.inl (by simp))) | (with_reducible refine Fr.set ?_ _ _ (.inr (by first | omega | (dsimp only; omega)))) | (with_reducible refine Fr.set ?_ _ _ (.inl (by simp)))))
    · (repeat (first | (with_reducible exact Fr.refl _ _) | (with_reducible assumption) | (with_reducible refine Fr.drew ?_) | (with_reducible refine Fr.drewN ?_ _) | (with_reducible refine Fr.alloc ?_ _) | (with_reducible refine Fr.mput ?_ _ _ _ (.inl (by simp))) | (with_reducible refine Fr.mdel ?_ _ _ (.inl (by simp))) | (with_reducible refine Fr.set ?_ _ _ (.inr (by first | omega | (dsimp only; omega)))) | (with_reducible refine Fr.set ?_ _ _ (.inl (by simp)))))
    · simp; omega
    · exact fun T h _ => h
  · simp only
    go_wp2_with fail
    refine (drop_f ((HX.out.2.2.1.fr (((Fr.refl [] w1).alloc _).alloc _)).flows) f).mono ?_
    rintro en w2 ⟨⟨vv, rfl⟩, hpost⟩
    obtain ⟨hF, hB, hb, hsaid⟩ := HX.out
    have hO := fun q hq => H.out.1.flows.lt q hq
    have hpost' := hpost
    obtain ⟨O', T', q1, q2, q3, q4⟩ := hpost
    have hV := q3.keep (k := w1.heap.size) (o := .cells #[.int .i64 k, .int .i64 0, .int .i64 x, .bool false] 46 (0, 0)) (by rw [heap_alloc_if, if_neg (by simp), heap_alloc_if, if_pos rfl]) (fun hc => by have := hO _ hc; have := hF.size; omega)
    have hB2 := q3.keep (k := w.heap.size + 1) (o := .cells #[.int .i64 0, .int .i64 0, .int .i64 0, .bool false] 46 (0, 0)) (by rw [heap_alloc_if, if_neg (by simp; omega), heap_alloc_if, if_neg (by omega)]; exact hB) (fun hc => by have := hO _ hc; omega)
    obtain ⟨⟨y0, y1, y2, y3⟩, _⟩ := verd_cells hV
    obtain ⟨⟨z0, z1, z2, z3⟩, g0, g1, g2, g3⟩ := verd_cells hB2
    have s1 := lt_of hV
    have s2 := lt_of hB2
    have HZ := Lib.hid (And.intro hpost' hO)
    clear hF hB hb hsaid hO q1 q2 q3 q4 hV hB2 hpost'
    go_wp2
    refine bodyPost_ret (v := .agg #[.int .i64 k, .int .i64 0, .int .i64 x, .bool false]) (by simp [results, Tryz.results17, go_sem, z0, z1, z2, z3, s2]) rfl ?_
    obtain ⟨hF, hB, hb, hsaid⟩ := HX.out
    refine ⟨⟨k, 0, x, false⟩, rfl, hsaid, H.out.1.after (post_lift (c := w.heap.size + 1) ?_ HZ.out.1 ?_ (by omega) ?_ HZ.out.2 ?_)⟩
    · (repeat (first | (with_reducible exact Fr.refl _ _) | (with_reducible assumption) | (with_reducible refine Fr.drew ?_) | (with_reducible refine Fr.drewN ?_ _) | (with_reducible refine Fr.alloc ?_ _) | (with_reducible refine Fr.mput ?_ _ _ _ (.inl (by simp))) | (with_reducible refine Fr.mdel ?_ _ _ (.inl (by simp))) | (with_reducible refine Fr.set ?_ _ _ (.inr (by first | omega | (dsimp only; omega)))) | (with_reducible refine Fr.set ?_ _ _ (.inl (by simp)))))
    · (repeat (first | (with_reducible exact Fr.refl _ _) | (with_reducible assumption) | (with_reducible refine Fr.drew ?_) | (with_reducible refine Fr.drewN ?_ _) | (with_reducible refine Fr.alloc ?_ _) | (with_reducible refine Fr.mput ?_ _ _ _ (.inl (by simp))) | (with_reducible refine Fr.mdel ?_ _ _ (.inl (by simp))) | (with_reducible refine Fr.set ?_ _ _ (.inr (by first | omega | (dsimp only; omega)))) | (with_reducible refine Fr.set ?_ _ _ (.inl (by simp)))))
    · simp; omega
    · exact fun T _ h => absurd h hk
end Go.Proofs.YthahlimmmnmniaaGreatDoor

namespace Go.Proofs.YthahlimmmnmniaaGreatDoor
open Go.RowKit Go.Fw

/-- The flow tables' contract, its entries told. -/
structure Cols (w0 W : World) (F O : List Nat) (p pb s sm rm : Nat) (U A B : List Nat) (col : Nat → Nat) : Prop where
  f : ∀ x ∈ F, col x = 0 ∧ x < W.heap.size
  o : ∀ x ∈ O, col x = 1 ∧ w0.heap.size ≤ x
  pp : ∀ x ∈ [p, pb], col x = 2 ∧ w0.heap.size ≤ x
  ss : ∀ x ∈ [s, sm, rm], col x = 3 ∧ w0.heap.size ≤ x
  uu : ∀ x ∈ U, col x = 4 ∧ w0.heap.size ≤ x
  aa : ∀ x ∈ A, col x = 5 ∧ w0.heap.size ≤ x
  bb : ∀ x ∈ B, col x = 6 ∧ w0.heap.size ≤ x

def BothAt (w0 W : World) (t p s u q r : Nat) (F : List Nat) (T : FTab) (P : PoolT) : Prop :=
  ∃ O pb sm rm S v l qv ql rv rl col, BalAt W t O T p pb P s sm rm S ∧ UAt W u v l ∧ QAt W q qv ql ∧ VAt W r rv rl ∧ Cols w0 W F O p pb s sm rm (uown u v) (qown q qv) (vown r rv) col ∧ Fr [] w0 W

/-- The named blocks are as they were. -/
def Kept (F : List Nat) (W W' : World) : Prop := W.heap.size ≤ W'.heap.size ∧ ∀ x ∈ F, W'.heap[x]? = W.heap[x]?
theorem Kept.at {F : List Nat} {W W' : World} (h : Kept F W W') {x : Nat} {o : Obj} (hx : W.heap[x]? = some o) (hF : x ∈ F) : W'.heap[x]? = some o := (h.2 x hF).trans hx

theorem BalAt.lts {w : World} {t p pb s sm rm : Nat} {O : List Nat} {T : FTab} {P : PoolT} {S : SibT} (h : BalAt w t O T p pb P s sm rm S) : (∀ x ∈ O, x < w.heap.size) ∧ (∀ x ∈ [p, pb], x < w.heap.size) ∧ (∀ x ∈ [s, sm, rm], x < w.heap.size) := by
  refine ⟨h.flows.lt, fun x hx => ?_, fun x hx => ?_⟩
  · simp at hx
    rcases hx with rfl | rfl
    · exact lt_of h.pool.pool
    · exact h.pool.map.lt
  · simp at hx
    rcases hx with rfl | rfl | rfl
    · exact lt_of h.sib.tab
    · exact h.sib.sites.lt
    · exact h.sib.reps.lt

/-- Lists of two colours meet nowhere. -/
theorem cols_ne {A B : List Nat} {col : Nat → Nat} {a b n m : Nat} (hA : ∀ x ∈ A, col x = a ∧ n ≤ x) (hB : ∀ x ∈ B, col x = b ∧ m ≤ x) (hne : a ≠ b) : ∀ x ∈ A, x ∉ B := fun x h1 h2 => hne ((hA x h1).1.symm.trans (hB x h2).1)

theorem BothAt.fr0 {w0 W : World} {t p s u q r : Nat} {F : List Nat} {T : FTab} {P : PoolT} (h : BothAt w0 W t p s u q r F T P) : Fr [] w0 W := by
  obtain ⟨_, _, _, _, _, _, _, _, _, _, _, _, _, _, _, _, _, h⟩ := h
  exact h
/-- Nothing but blocks that belong to none of the tables turns. -/
theorem BothAt.free {w0 W W' : World} {t p s u q r : Nat} {F G : List Nat} {T : FTab} {P : PoolT} (h : BothAt w0 W t p s u q r F T P) (hf : Fr G W W') (hG : ∀ x ∈ G, x ∈ F ∧ w0.heap.size ≤ x) : BothAt w0 W' t p s u q r F T P := by
  obtain ⟨O, pb, sm, rm, S, v, l, qv, ql, rv, rl, col, hb, hu, hq, hv, hc, h0⟩ := h
  have hG' : ∀ x ∈ G, col x = 0 ∧ 0 ≤ x := fun x hx => ⟨(hc.f x (hG x hx).1).1, Nat.zero_le _⟩
  have e1 := cols_ne hc.o hG' (by decide)
  have e2 := cols_ne hc.pp hG' (by decide)
  have e3 := cols_ne hc.ss hG' (by decide)
  refine ⟨O, pb, sm, rm, S, v, l, qv, ql, rv, rl, col, ⟨hb.flows.fr hf e1, hb.pool.fr hf (e2 _ (by simp)) (e2 _ (by simp)), hb.pok, hb.p0, hb.p1, hb.sib.fr hf (e3 _ (by simp)) (e3 _ (by simp)) (e3 _ (by simp)), hb.sok, hb.apart⟩, hu.fr hf (cols_ne hc.uu hG' (by decide)), hq.fr hf (cols_ne hc.aa hG' (by decide)), hv.fr hf (cols_ne hc.bb hG' (by decide)), ⟨fun x hx => ⟨(hc.f x hx).1, Nat.lt_of_lt_of_le (hc.f x hx).2 hf.size⟩, hc.o, hc.pp, hc.ss, hc.uu, hc.aa, hc.bb⟩, h0.trans hf (fun x hx => .inr (hG x hx).2)⟩
theorem BothAt.drewN {w0 W : World} {t p s u q r : Nat} {F : List Nat} {T : FTab} {P : PoolT} (h : BothAt w0 W t p s u q r F T P) (n : Nat) : BothAt w0 (W.drewN n) t p s u q r F T P := h.free (G := []) ((Fr.refl _ _).drewN n) (by simp)
/-- A new block. -/
theorem BothAt.new {w0 W W' : World} {t p s u q r k : Nat} {F : List Nat} {T : FTab} {P : PoolT} (h : BothAt w0 W t p s u q r F T P) (hf : Fr [] W W') (hk : W.heap.size ≤ k) (hk' : k < W'.heap.size) : BothAt w0 W' t p s u q r (k :: F) T P := by
  obtain ⟨O, pb, sm, rm, S, v, l, qv, ql, rv, rl, col, hb, hu, hq, hv, hc, h0⟩ := h
  have hs := hf.size
  obtain ⟨l1, l2, l3⟩ := hb.lts
  have keep : ∀ (A : List Nat) (a : Nat), (∀ x ∈ A, col x = a ∧ w0.heap.size ≤ x) → (∀ x ∈ A, x < W.heap.size) → ∀ x ∈ A, (fun x => if x < W.heap.size then col x else 0) x = a ∧ w0.heap.size ≤ x := fun A a h1 h2 x hx => ⟨by simp only [if_pos (h2 x hx)]; exact (h1 x hx).1, (h1 x hx).2⟩
  refine ⟨O, pb, sm, rm, S, v, l, qv, ql, rv, rl, fun x => if x < W.heap.size then col x else 0, hb.fr hf, hu.fr hf (by simp), hq.fr hf (by simp), hv.fr hf (by simp), ⟨fun x hx => ?_, keep _ _ hc.o l1, keep _ _ hc.pp l2, keep _ _ hc.ss l3, keep _ _ hc.uu hu.lt, keep _ _ hc.aa hq.lt, keep _ _ hc.bb hv.lt⟩, h0.trans hf (by simp)⟩
  rcases List.mem_cons.1 hx with rfl | hx
  · exact ⟨by simp only [if_neg (by omega : ¬ x < W.heap.size)], hk'⟩
  · exact ⟨by simp only [if_pos (hc.f x hx).2]; exact (hc.f x hx).1, Nat.lt_of_lt_of_le (hc.f x hx).2 hs⟩

theorem kept_of {F S : List Nat} {W W' : World} {col : Nat → Nat} {a n : Nat} (hf : Fr S W W') (hF : ∀ x ∈ F, col x = 0 ∧ x < W.heap.size) (hS : ∀ x ∈ S, col x = a ∧ n ≤ x) (ha : a ≠ 0) : Kept F W W' :=
  ⟨hf.size, fun x hx => hf.block x (hF x hx).2 (fun hc => ha ((hS x hc).1.symm.trans (hF x hx).1))⟩

/-- The pool's map turns. -/
theorem BothAt.pool {w0 W : World} {t p s u q r : Nat} {F : List Nat} {T : FTab} {P : PoolT} (h : BothAt w0 W t p s u q r F T P) :
    ∃ pb, PoolAt W p pb P ∧ POk P ∧ 1 ≤ P.percent ∧ P.percent ≤ 100 ∧ ∀ W' P', PoolAt W' p pb P' → POk P' → P'.percent = P.percent → Fr [pb] W W' → BothAt w0 W' t p s u q r F T P' ∧ Kept F W W' := by
  obtain ⟨O, pb, sm, rm, S, v, l, qv, ql, rv, rl, col, hb, hu, hq, hv, hc, h0⟩ := h
  refine ⟨pb, hb.pool, hb.pok, hb.p0, hb.p1, fun W' P' h1 h2 h3 hf => ?_⟩
  have hG' : ∀ x ∈ [pb], col x = 2 ∧ w0.heap.size ≤ x := fun x hx => hc.pp x (by simp at hx; simp [hx])
  have e1 := cols_ne hc.o hG' (by decide)
  have e3 := cols_ne hc.ss hG' (by decide)
  refine ⟨⟨O, pb, sm, rm, S, v, l, qv, ql, rv, rl, col, ⟨hb.flows.fr hf e1, h1, h2, by rw [h3]; exact hb.p0, by rw [h3]; exact hb.p1, hb.sib.fr hf (e3 _ (by simp)) (e3 _ (by simp)) (e3 _ (by simp)), hb.sok, hb.apart⟩, hu.fr hf (cols_ne hc.uu hG' (by decide)), hq.fr hf (cols_ne hc.aa hG' (by decide)), hv.fr hf (cols_ne hc.bb hG' (by decide)), ⟨fun x hx => ⟨(hc.f x hx).1, Nat.lt_of_lt_of_le (hc.f x hx).2 hf.size⟩, hc.o, hc.pp, hc.ss, hc.uu, hc.aa, hc.bb⟩, h0.trans hf (fun x hx => .inr (hG' x hx).2)⟩, kept_of hf hc.f hG' (by decide)⟩
/-- The sites' maps turn. -/
theorem BothAt.sib {w0 W : World} {t p s u q r : Nat} {F : List Nat} {T : FTab} {P : PoolT} (h : BothAt w0 W t p s u q r F T P) :
    ∃ sm rm S, SibAt W s sm rm S ∧ SOk S ∧ ∀ W' S', SibAt W' s sm rm S' → SOk S' → Fr [sm, rm] W W' → BothAt w0 W' t p s u q r F T P ∧ Kept F W W' := by
  obtain ⟨O, pb, sm, rm, S, v, l, qv, ql, rv, rl, col, hb, hu, hq, hv, hc, h0⟩ := h
  refine ⟨sm, rm, S, hb.sib, hb.sok, fun W' S' h1 h2 hf => ?_⟩
  have hG' : ∀ x ∈ [sm, rm], col x = 3 ∧ w0.heap.size ≤ x := fun x hx => hc.ss x (by simp at hx; rcases hx with rfl | rfl <;> simp)
  have e1 := cols_ne hc.o hG' (by decide)
  have e2 := cols_ne hc.pp hG' (by decide)
  refine ⟨⟨O, pb, sm, rm, S', v, l, qv, ql, rv, rl, col, ⟨hb.flows.fr hf e1, hb.pool.fr hf (e2 _ (by simp)) (e2 _ (by simp)), hb.pok, hb.p0, hb.p1, h1, h2, hb.apart⟩, hu.fr hf (cols_ne hc.uu hG' (by decide)), hq.fr hf (cols_ne hc.aa hG' (by decide)), hv.fr hf (cols_ne hc.bb hG' (by decide)), ⟨fun x hx => ⟨(hc.f x hx).1, Nat.lt_of_lt_of_le (hc.f x hx).2 hf.size⟩, hc.o, hc.pp, hc.ss, hc.uu, hc.aa, hc.bb⟩, h0.trans hf (fun x hx => .inr (hG' x hx).2)⟩, kept_of hf hc.f hG' (by decide)⟩
/-- The flow table turns. -/
theorem BothAt.flows {w0 W : World} {t p s u q r : Nat} {F : List Nat} {T : FTab} {P : PoolT} (h : BothAt w0 W t p s u q r F T P) :
    ∃ O, FlowsAt W t O T ∧ ∀ W' R, FlowsPost W t O R W' → ∃ T', R T' ∧ BothAt w0 W' t p s u q r F T' P ∧ Kept F W W' := by
  obtain ⟨O, pb, sm, rm, S, v, l, qv, ql, rv, rl, col, hb, hu, hq, hv, hc, h0⟩ := h
  refine ⟨O, hb.flows, fun W' R hp => ?_⟩
  obtain ⟨O', T', hb', hn, hf, hR⟩ := hb.after hp
  obtain ⟨l1, l2, l3⟩ := hb.lts
  have hs0 := h0.size
  have keep : ∀ (A : List Nat) (a : Nat), (∀ x ∈ A, col x = a ∧ w0.heap.size ≤ x) → (∀ x ∈ A, x < W.heap.size) → ∀ x ∈ A, (fun x => if x < W.heap.size then col x else 1) x = a ∧ w0.heap.size ≤ x := fun A a h1 h2 x hx => ⟨by simp only [if_pos (h2 x hx)]; exact (h1 x hx).1, (h1 x hx).2⟩
  refine ⟨T', hR, ⟨O', pb, sm, rm, S, v, l, qv, ql, rv, rl, fun x => if x < W.heap.size then col x else 1, hb', hu.fr hf (cols_ne hc.uu hc.o (by decide)), hq.fr hf (cols_ne hc.aa hc.o (by decide)), hv.fr hf (cols_ne hc.bb hc.o (by decide)), ⟨fun x hx => ⟨by simp only [if_pos (hc.f x hx).2]; exact (hc.f x hx).1, Nat.lt_of_lt_of_le (hc.f x hx).2 hf.size⟩, fun x hx => ?_, keep _ _ hc.pp l2, keep _ _ hc.ss l3, keep _ _ hc.uu hu.lt, keep _ _ hc.aa hq.lt, keep _ _ hc.bb hv.lt⟩, h0.trans hf (fun x hx => .inr (hc.o x hx).2)⟩, kept_of hf hc.f hc.o (by decide)⟩
  rcases hn x hx with h | h
  · exact keep _ _ hc.o l1 x h
  · exact ⟨by simp only [if_neg (by omega : ¬ x < W.heap.size)], by omega⟩
/-- The document's flow table turns. -/
theorem BothAt.uref {w0 W : World} {t p s u q r : Nat} {F : List Nat} {T : FTab} {P : PoolT} (h : BothAt w0 W t p s u q r F T P) :
    ∃ v l, UAt W u v l ∧ ∀ W' v' l', UAt W' u v' l' → (∀ k ∈ uown u v', k ∈ uown u v ∨ W.heap.size ≤ k) → Fr [u] W W' → BothAt w0 W' t p s u q r F T P ∧ Kept F W W' := by
  obtain ⟨O, pb, sm, rm, S, v, l, qv, ql, rv, rl, col, hb, hu, hq, hv, hc, h0⟩ := h
  refine ⟨v, l, hu, fun W' v' l' h1 hn hf => ?_⟩
  obtain ⟨l1, l2, l3⟩ := hb.lts
  have hs0 := h0.size
  have hG' : ∀ x ∈ [u], col x = 4 ∧ w0.heap.size ≤ x := fun x hx => hc.uu x (by simp at hx; simp [hx, uown])
  have e1 := cols_ne hc.o hG' (by decide)
  have e2 := cols_ne hc.pp hG' (by decide)
  have e3 := cols_ne hc.ss hG' (by decide)
  have keep : ∀ (A : List Nat) (a : Nat), (∀ x ∈ A, col x = a ∧ w0.heap.size ≤ x) → (∀ x ∈ A, x < W.heap.size) → ∀ x ∈ A, (fun x => if x < W.heap.size then col x else 4) x = a ∧ w0.heap.size ≤ x := fun A a h1 h2 x hx => ⟨by simp only [if_pos (h2 x hx)]; exact (h1 x hx).1, (h1 x hx).2⟩
  refine ⟨⟨O, pb, sm, rm, S, v', l', qv, ql, rv, rl, fun x => if x < W.heap.size then col x else 4, ⟨hb.flows.fr hf e1, hb.pool.fr hf (e2 _ (by simp)) (e2 _ (by simp)), hb.pok, hb.p0, hb.p1, hb.sib.fr hf (e3 _ (by simp)) (e3 _ (by simp)) (e3 _ (by simp)), hb.sok, hb.apart⟩, h1, hq.fr hf (cols_ne hc.aa hG' (by decide)), hv.fr hf (cols_ne hc.bb hG' (by decide)), ⟨fun x hx => ⟨by simp only [if_pos (hc.f x hx).2]; exact (hc.f x hx).1, Nat.lt_of_lt_of_le (hc.f x hx).2 hf.size⟩, keep _ _ hc.o l1, keep _ _ hc.pp l2, keep _ _ hc.ss l3, fun x hx => ?_, keep _ _ hc.aa hq.lt, keep _ _ hc.bb hv.lt⟩, h0.trans hf (fun x hx => .inr (hG' x hx).2)⟩, kept_of hf hc.f hG' (by decide)⟩
  rcases hn x hx with h | h
  · exact keep _ _ hc.uu hu.lt x h
  · exact ⟨by simp only [if_neg (by omega : ¬ x < W.heap.size)], by omega⟩
/-- The document's pool turns. -/
theorem BothAt.qref {w0 W : World} {t p s u q r : Nat} {F : List Nat} {T : FTab} {P : PoolT} (h : BothAt w0 W t p s u q r F T P) :
    ∃ v l, QAt W q v l ∧ ∀ W' v' l', QAt W' q v' l' → (∀ k ∈ qown q v', k ∈ qown q v ∨ W.heap.size ≤ k) → Fr [q] W W' → BothAt w0 W' t p s u q r F T P ∧ Kept F W W' := by
  obtain ⟨O, pb, sm, rm, S, v, l, qv, ql, rv, rl, col, hb, hu, hq, hv, hc, h0⟩ := h
  refine ⟨qv, ql, hq, fun W' v' l' h1 hn hf => ?_⟩
  obtain ⟨l1, l2, l3⟩ := hb.lts
  have hs0 := h0.size
  have hG' : ∀ x ∈ [q], col x = 5 ∧ w0.heap.size ≤ x := fun x hx => hc.aa x (by simp at hx; simp [hx, qown])
  have e1 := cols_ne hc.o hG' (by decide)
  have e2 := cols_ne hc.pp hG' (by decide)
  have e3 := cols_ne hc.ss hG' (by decide)
  have keep : ∀ (A : List Nat) (a : Nat), (∀ x ∈ A, col x = a ∧ w0.heap.size ≤ x) → (∀ x ∈ A, x < W.heap.size) → ∀ x ∈ A, (fun x => if x < W.heap.size then col x else 5) x = a ∧ w0.heap.size ≤ x := fun A a h1 h2 x hx => ⟨by simp only [if_pos (h2 x hx)]; exact (h1 x hx).1, (h1 x hx).2⟩
  refine ⟨⟨O, pb, sm, rm, S, v, l, v', l', rv, rl, fun x => if x < W.heap.size then col x else 5, ⟨hb.flows.fr hf e1, hb.pool.fr hf (e2 _ (by simp)) (e2 _ (by simp)), hb.pok, hb.p0, hb.p1, hb.sib.fr hf (e3 _ (by simp)) (e3 _ (by simp)) (e3 _ (by simp)), hb.sok, hb.apart⟩, hu.fr hf (cols_ne hc.uu hG' (by decide)), h1, hv.fr hf (cols_ne hc.bb hG' (by decide)), ⟨fun x hx => ⟨by simp only [if_pos (hc.f x hx).2]; exact (hc.f x hx).1, Nat.lt_of_lt_of_le (hc.f x hx).2 hf.size⟩, keep _ _ hc.o l1, keep _ _ hc.pp l2, keep _ _ hc.ss l3, keep _ _ hc.uu hu.lt, fun x hx => ?_, keep _ _ hc.bb hv.lt⟩, h0.trans hf (fun x hx => .inr (hG' x hx).2)⟩, kept_of hf hc.f hG' (by decide)⟩
  rcases hn x hx with h | h
  · exact keep _ _ hc.aa hq.lt x h
  · exact ⟨by simp only [if_neg (by omega : ¬ x < W.heap.size)], by omega⟩
/-- The document's sites turn. -/
theorem BothAt.vref {w0 W : World} {t p s u q r : Nat} {F : List Nat} {T : FTab} {P : PoolT} (h : BothAt w0 W t p s u q r F T P) :
    ∃ v l, VAt W r v l ∧ ∀ W' v' l', VAt W' r v' l' → (∀ k ∈ vown r v', k ∈ vown r v ∨ W.heap.size ≤ k) → Fr [r] W W' → BothAt w0 W' t p s u q r F T P ∧ Kept F W W' := by
  obtain ⟨O, pb, sm, rm, S, v, l, qv, ql, rv, rl, col, hb, hu, hq, hv, hc, h0⟩ := h
  refine ⟨rv, rl, hv, fun W' v' l' h1 hn hf => ?_⟩
  obtain ⟨l1, l2, l3⟩ := hb.lts
  have hs0 := h0.size
  have hG' : ∀ x ∈ [r], col x = 6 ∧ w0.heap.size ≤ x := fun x hx => hc.bb x (by simp at hx; simp [hx, vown])
  have e1 := cols_ne hc.o hG' (by decide)
  have e2 := cols_ne hc.pp hG' (by decide)
  have e3 := cols_ne hc.ss hG' (by decide)
  have keep : ∀ (A : List Nat) (a : Nat), (∀ x ∈ A, col x = a ∧ w0.heap.size ≤ x) → (∀ x ∈ A, x < W.heap.size) → ∀ x ∈ A, (fun x => if x < W.heap.size then col x else 6) x = a ∧ w0.heap.size ≤ x := fun A a h1 h2 x hx => ⟨by simp only [if_pos (h2 x hx)]; exact (h1 x hx).1, (h1 x hx).2⟩
  refine ⟨⟨O, pb, sm, rm, S, v, l, qv, ql, v', l', fun x => if x < W.heap.size then col x else 6, ⟨hb.flows.fr hf e1, hb.pool.fr hf (e2 _ (by simp)) (e2 _ (by simp)), hb.pok, hb.p0, hb.p1, hb.sib.fr hf (e3 _ (by simp)) (e3 _ (by simp)) (e3 _ (by simp)), hb.sok, hb.apart⟩, hu.fr hf (cols_ne hc.uu hG' (by decide)), hq.fr hf (cols_ne hc.aa hG' (by decide)), h1, ⟨fun x hx => ⟨by simp only [if_pos (hc.f x hx).2]; exact (hc.f x hx).1, Nat.lt_of_lt_of_le (hc.f x hx).2 hf.size⟩, keep _ _ hc.o l1, keep _ _ hc.pp l2, keep _ _ hc.ss l3, keep _ _ hc.uu hu.lt, keep _ _ hc.aa hq.lt, fun x hx => ?_⟩, h0.trans hf (fun x hx => .inr (hG' x hx).2)⟩, kept_of hf hc.f hG' (by decide)⟩
  rcases hn x hx with h | h
  · exact keep _ _ hc.bb hv.lt x h
  · exact ⟨by simp only [if_neg (by omega : ¬ x < W.heap.size)], by omega⟩
end Go.Proofs.YthahlimmmnmniaaGreatDoor

namespace Go.Proofs.YthahlimmmnmniaaGreatDoor
open Go.RowKit Go.Fw

theorem padd_ok {P : PoolT} (ok : POk P) (id addr wt : Int) : POk (padd P id addr wt) ∧ (padd P id addr wt).percent = P.percent := by
  unfold padd
  split
  · exact ⟨ok, rfl⟩
  split
  · exact ⟨ok, rfl⟩
  split
  · exact ⟨ok, rfl⟩
  rename_i hb hs hl
  refine ⟨⟨?_, fun z hz => ?_⟩, rfl⟩
  · have hk : id ∉ P.l.map Prod.fst := by
      rw [← aget_none]
      cases hg : aget P.l id with
      | none => rfl
      | some m => rw [hg] at hs; simp at hs
    simp only [aput, if_neg hk, List.length_append, List.length_singleton]
    omega
  · unfold badB at hb
    rcases mem_aput.1 hz with rfl | ⟨h1, _⟩
    · refine ⟨rfl, ?_, ?_, ?_, ?_⟩ <;> simp only <;> omega
    · exact ok.2 z h1
theorem pchange_ok {P : PoolT} (ok : POk P) (id : Int) (f : Mem → Mem) (hf : ∀ m, 0 ≤ m.weight → m.weight ≤ 100 → (f m).id = m.id ∧ 0 ≤ (f m).weight ∧ (f m).weight ≤ 100) : POk (pchange P id f) ∧ (pchange P id f).percent = P.percent := by
  unfold pchange
  split
  · rename_i m hg
    have hm := ok.2 _ (aget_mem hg)
    have hk : id ∈ P.l.map Prod.fst := List.mem_map.2 ⟨_, aget_mem hg, rfl⟩
    have h2 := hf m hm.2.2.2.1 hm.2.2.2.2
    simp only at hm
    refine ⟨⟨?_, fun z hz => ?_⟩, rfl⟩
    · have h3 := ok.1
      simp only [aput, if_pos hk, List.length_map]
      exact h3
    · rcases mem_aput.1 hz with rfl | ⟨h1, _⟩
      · refine ⟨?_, ?_, ?_, h2.2.1, h2.2.2⟩
        · simp only [h2.1]; exact hm.1
        · simp only [h2.1]; exact hm.2.1
        · simp only [h2.1]; exact hm.2.2.1
      · exact ok.2 z h1
  · exact ⟨ok, rfl⟩

def BothPost (w0 W : World) (t p s u q r : Nat) (F : List Nat) (T : FTab) (P : PoolT) (en : Ending) (W' : World) : Prop :=
  (∃ x, en = .returned x) ∧ BothAt w0 W' t p s u q r F T P ∧ Kept F W W'

section
variable {w0 W : World} {t p s u q r : Nat} {F : List Nat} {T : FTab} {P : PoolT}

theorem both_padd (h : BothAt w0 W t p s u q r F T P) (id addr wt : Int) :
    Calls Tryz.prog 27 #[.pointer (some ⟨p, 0, none⟩), .agg #[.int .i64 id, .int .u32 addr, .int .i64 wt]] W (BothPost w0 W t p s u q r F T (padd P id addr wt)) := by
  obtain ⟨pb, h1, h2, _, _, h3⟩ := h.pool
  refine (add_any h1 id addr wt).mono ?_
  rintro en W' ⟨⟨e, rfl⟩, h4, h5⟩
  have h6 := padd_ok h2 id addr wt
  exact ⟨⟨_, rfl⟩, h3 W' _ h4 h6.1 h6.2 h5⟩
theorem both_mark (h : BothAt w0 W t p s u q r F T P) (id : Int) (up : Bool) :
    Calls Tryz.prog 20 #[.pointer (some ⟨p, 0, none⟩), .int .i64 id, .bool up] W (BothPost w0 W t p s u q r F T (pchange P id fun m => { m with up := up })) := by
  obtain ⟨pb, h1, h2, _, _, h3⟩ := h.pool
  refine (mark_any h1 id up).mono ?_
  rintro en W' ⟨⟨e, rfl⟩, h4, h5⟩
  have h6 := pchange_ok h2 id (fun m => { m with up := up }) (fun m a b => ⟨rfl, a, b⟩)
  exact ⟨⟨_, rfl⟩, h3 W' _ h4 h6.1 h6.2 h5⟩
theorem both_drain (h : BothAt w0 W t p s u q r F T P) (id : Int) (dr : Bool) :
    Calls Tryz.prog 18 #[.pointer (some ⟨p, 0, none⟩), .int .i64 id, .bool dr] W (BothPost w0 W t p s u q r F T (pchange P id fun m => { m with drain := dr })) := by
  obtain ⟨pb, h1, h2, _, _, h3⟩ := h.pool
  refine (drain_any h1 id dr).mono ?_
  rintro en W' ⟨⟨e, rfl⟩, h4, h5⟩
  have h6 := pchange_ok h2 id (fun m => { m with drain := dr }) (fun m a b => ⟨rfl, a, b⟩)
  exact ⟨⟨_, rfl⟩, h3 W' _ h4 h6.1 h6.2 h5⟩
theorem both_weigh (h : BothAt w0 W t p s u q r F T P) (id n : Int) (n0 : 0 ≤ n) (n1 : n ≤ 100) :
    Calls Tryz.prog 19 #[.pointer (some ⟨p, 0, none⟩), .int .i64 id, .int .i64 n] W (BothPost w0 W t p s u q r F T (pchange P id fun m => { m with weight := n })) := by
  obtain ⟨pb, h1, h2, _, _, h3⟩ := h.pool
  refine (weigh_any h1 id n n0 n1).mono ?_
  rintro en W' ⟨⟨e, rfl⟩, h4, h5⟩
  have h6 := pchange_ok h2 id (fun m => { m with weight := n }) (fun m a b => ⟨rfl, n0, n1⟩)
  exact ⟨⟨_, rfl⟩, h3 W' _ h4 h6.1 h6.2 h5⟩
theorem both_sadd (h : BothAt w0 W t p s u q r F T P) (id addr cost : Int) :
    Calls Tryz.prog 31 #[.pointer (some ⟨s, 0, none⟩), .agg #[.int .i64 id, .int .u32 addr, .int .i64 cost]] W (BothPost w0 W t p s u q r F T P) := by
  obtain ⟨sm, rm, S, h1, h2, h3⟩ := h.sib
  refine (sadd_any h1 h2 (id, addr, cost)).mono ?_
  rintro en W' ⟨⟨e, rfl⟩, ⟨S', h4, h5⟩, h6⟩
  exact ⟨⟨_, rfl⟩, h3 W' S' h5 h4 h6⟩
theorem both_sreport (h : BothAt w0 W t p s u q r F T P) (id cap til : Int) :
    Calls Tryz.prog 33 #[.pointer (some ⟨s, 0, none⟩), .int .i64 id, .int .i64 cap, .int .i64 til] W (BothPost w0 W t p s u q r F T P) := by
  obtain ⟨sm, rm, S, h1, h2, h3⟩ := h.sib
  refine (sreport_any h1 h2 id cap til).mono ?_
  rintro en W' ⟨⟨e, rfl⟩, ⟨S', h4, h5⟩, h6⟩
  exact ⟨⟨_, rfl⟩, h3 W' S' h5 h4 h6⟩
def SomePost (w0 W : World) (t p s u q r : Nat) (F : List Nat) (P : PoolT) (en : Ending) (W' : World) : Prop :=
  (∃ x, en = .returned x) ∧ (∃ T', BothAt w0 W' t p s u q r F T' P) ∧ Kept F W W'
theorem both_put (h : BothAt w0 W t p s u q r F T P) (f : Flow) (b now : Int) :
    Calls Tryz.prog 35 #[.pointer (some ⟨t, 0, none⟩), .agg #[.int .i64 f.proto, .int .u32 f.src, .int .u32 f.dst, .int .i64 f.sport, .int .i64 f.dport], .int .i64 b, .int .i64 now] W (SomePost w0 W t p s u q r F P) := by
  obtain ⟨O, h1, h2⟩ := h.flows
  refine (put_f h1 f b now).mono ?_
  rintro en W' ⟨h4, h5⟩
  obtain ⟨T', _, h6, h7⟩ := h2 W' _ h5
  exact ⟨h4, ⟨T', h6⟩, h7⟩
theorem both_uput (h : BothAt w0 W t p s u q r F T P) (f : Flow) (b now : Int) :
    Calls Tryz.prog 36 #[.pointer (some ⟨u, 0, none⟩), .agg #[.int .i64 f.proto, .int .u32 f.src, .int .u32 f.dst, .int .i64 f.sport, .int .i64 f.dport], .int .i64 b, .int .i64 now] W (BothPost w0 W t p s u q r F T P) := by
  obtain ⟨v, l, h1, h2⟩ := h.uref
  refine (uput_any h1 f b now).mono ?_
  rintro en W' ⟨h4, v', l', h5, h6, h7⟩
  exact ⟨h4, h2 W' v' l' h5 h6 h7⟩
theorem both_qadd (h : BothAt w0 W t p s u q r F T P) (id addr wt : Int) :
    Calls Tryz.prog 28 #[.pointer (some ⟨q, 0, none⟩), .agg #[.int .i64 id, .int .u32 addr, .int .i64 wt]] W (BothPost w0 W t p s u q r F T P) := by
  obtain ⟨v, l, h1, h2⟩ := h.qref
  refine (qadd_any h1 id addr wt).mono ?_
  rintro en W' ⟨⟨x, rfl⟩, v', l', h5, h6, h7⟩
  exact ⟨⟨_, rfl⟩, h2 W' v' l' h5 h6 h7⟩
theorem both_qmark (h : BothAt w0 W t p s u q r F T P) (id : Int) (up : Bool) :
    Calls Tryz.prog 29 #[.pointer (some ⟨q, 0, none⟩), .int .i64 id, .bool up] W (BothPost w0 W t p s u q r F T P) := by
  obtain ⟨v, l, h1, h2⟩ := h.qref
  refine (qmark_any h1 id up).mono ?_
  rintro en W' ⟨⟨x, rfl⟩, v', l', h5, h6, h7⟩
  exact ⟨⟨_, rfl⟩, h2 W' v' l' h5 h6 h7⟩
theorem both_qdrain (h : BothAt w0 W t p s u q r F T P) (id : Int) (up : Bool) :
    Calls Tryz.prog 30 #[.pointer (some ⟨q, 0, none⟩), .int .i64 id, .bool up] W (BothPost w0 W t p s u q r F T P) := by
  obtain ⟨v, l, h1, h2⟩ := h.qref
  refine (qdrain_any h1 id up).mono ?_
  rintro en W' ⟨⟨x, rfl⟩, v', l', h5, h6, h7⟩
  exact ⟨⟨_, rfl⟩, h2 W' v' l' h5 h6 h7⟩
theorem both_vadd (h : BothAt w0 W t p s u q r F T P) (id addr cost : Int) :
    Calls Tryz.prog 32 #[.pointer (some ⟨r, 0, none⟩), .agg #[.int .i64 id, .int .u32 addr, .int .i64 cost]] W (BothPost w0 W t p s u q r F T P) := by
  obtain ⟨v, l, h1, h2⟩ := h.vref
  refine (vadd_any h1 id addr cost).mono ?_
  rintro en W' ⟨⟨x, rfl⟩, v', l', h5, h6, h7⟩
  exact ⟨⟨_, rfl⟩, h2 W' v' l' h5 h6 h7⟩
theorem both_vreport (h : BothAt w0 W t p s u q r F T P) (id cap til : Int) :
    Calls Tryz.prog 34 #[.pointer (some ⟨r, 0, none⟩), .int .i64 id, .int .i64 cap, .int .i64 til] W (BothPost w0 W t p s u q r F T P) := by
  obtain ⟨v, l, h1, h2⟩ := h.vref
  refine (vreport_any h1 id cap til).mono ?_
  rintro en W' ⟨⟨x, rfl⟩, v', l', h5, h6, h7⟩
  exact ⟨⟨_, rfl⟩, h2 W' v' l' h5 h6 h7⟩
end
end Go.Proofs.YthahlimmmnmniaaGreatDoor

namespace Go.Proofs.YthahlimmmnmniaaGreatDoor
open Go.RowKit Go.Fw

set_option maxHeartbeats 1000000 in
theorem itoa_one (w : World) : Calls Tryz.prog 62 #[.int .i64 1] w fun en w' => en = .returned (.string ⟨#[49]⟩) ∧ w = w' := by
  go_enter Tryz.func62, Tryz.ntmps62
  go_wp2
  go_ret
  exact ⟨rfl, rfl⟩
set_option maxHeartbeats 1000000 in
theorem name_local (w : World) : Calls Tryz.prog 61 #[.int .i64 1] w fun en w' => en = .returned (.string ⟨#[108, 111, 99, 97, 108]⟩) ∧ w = w' := by
  go_enter Tryz.func61, Tryz.ntmps61
  go_wp2
  go_ret
  exact ⟨rfl, rfl⟩
set_option maxHeartbeats 1000000 in
theorem text_new (w : World) : Calls Tryz.prog 21 #[.agg #[.int .i64 1, .int .i64 1, .int .i64 0, .bool false]] w fun en w' => en = .returned (.string ⟨#[108, 111, 99, 97, 108, 32, 49]⟩) ∧ Fr [] w w' := by
  go_enter Tryz.func21, Tryz.ntmps21
  go_wp2_with (first | (go_at_call 62; refine (itoa_one _).mono ?_; rintro e w' ⟨rfl, rfl⟩) | (go_at_call 61; refine (name_local _).mono ?_; rintro e w' ⟨rfl, rfl⟩))
  go_ret
  exact ⟨rfl, by (repeat (first | (with_reducible exact Fr.refl _ _) | (with_reducible assumption) | (with_reducible refine Fr.drew ?_) | (with_reducible refine Fr.drewN ?_ _) | (with_reducible refine Fr.alloc ?_ _) | (with_reducible refine Fr.mput ?_ _ _ _ (.inl (by simp))) | (with_reducible refine Fr.mdel ?_ _ _ (.inl (by simp))) | (with_reducible refine Fr.set ?_ _ _ (.inr (by first | omega | (dsimp only; omega)))) | (with_reducible refine Fr.set ?_ _ _ (.inl (by simp)))))⟩
set_option maxHeartbeats 1000000 in
theorem text_known (w : World) : Calls Tryz.prog 21 #[.agg #[.int .i64 1, .int .i64 1, .int .i64 0, .bool true]] w fun en w' => en = .returned (.string ⟨#[108, 111, 99, 97, 108, 32, 49, 32, 107, 110, 111, 119, 110]⟩) ∧ Fr [] w w' := by
  go_enter Tryz.func21, Tryz.ntmps21
  go_wp2_with (first | (go_at_call 62; refine (itoa_one _).mono ?_; rintro e w' ⟨rfl, rfl⟩) | (go_at_call 61; refine (name_local _).mono ?_; rintro e w' ⟨rfl, rfl⟩))
  go_ret
  exact ⟨rfl, by (repeat (first | (with_reducible exact Fr.refl _ _) | (with_reducible assumption) | (with_reducible refine Fr.drew ?_) | (with_reducible refine Fr.drewN ?_ _) | (with_reducible refine Fr.alloc ?_ _) | (with_reducible refine Fr.mput ?_ _ _ _ (.inl (by simp))) | (with_reducible refine Fr.mdel ?_ _ _ (.inl (by simp))) | (with_reducible refine Fr.set ?_ _ _ (.inr (by first | omega | (dsimp only; omega)))) | (with_reducible refine Fr.set ?_ _ _ (.inl (by simp)))))⟩
end Go.Proofs.YthahlimmmnmniaaGreatDoor

namespace Go.Proofs.YthahlimmmnmniaaGreatDoor
open Go.RowKit Go.Fw

/-- A slice that came in. -/
structure Sl (α : Type) where
  ad : Option Addr
  n : Nat
  c : Nat
  l : List α
def Sl.val {α : Type} (x : Sl α) : Value := .slice x.ad x.n x.c
structure SlOf {α : Type} (w : World) (enc : α → List Value) (k : Nat) (x : Sl α) : Prop where
  len : x.l.length = x.n
  cap : x.n ≤ x.c
  max : x.c ≤ 9223372036854775807
  at_ : ∀ (i : Nat) (e : α), x.l[i]? = some e → ∃ b off, x.ad = some ⟨b, off, none⟩ ∧ b < w.heap.size ∧ ∀ (t : Nat) (v : Value), (enc e)[t]? = some v → w.cell? ⟨b, off + i * k + t, none⟩ = some v
theorem SlOf.fr {α : Type} {w w' : World} {enc : α → List Value} {k : Nat} {x : Sl α} (h : SlOf w enc k x) (hf : Fr [] w w') : SlOf w' enc k x :=
  ⟨h.len, h.cap, h.max, fun i e he => by
    obtain ⟨b, off, h1, h2, h3⟩ := h.at_ i e he
    exact ⟨b, off, h1, Nat.lt_of_lt_of_le h2 hf.size, fun t v hv => (hf.cell (a := ⟨b, off + i * k + t, none⟩) h2 (by simp)).trans (h3 t v hv)⟩⟩

theorem SlOf.one {α : Type} {w : World} {enc : α → List Value} {k : Nat} {x : Sl α} (h : SlOf w enc k x) {i : Nat} {e : α} (he : x.l[i]? = some e) :
    ∃ b off, x.ad = some ⟨b, off, none⟩ ∧ ∀ W, Fr [] w W → b < W.heap.size ∧ ∀ (t : Nat) (v : Value), (enc e)[t]? = some v → W.cell? ⟨b, off + i * k + t, none⟩ = some v := by
  obtain ⟨b, off, h1, _⟩ := h.at_ i e he
  refine ⟨b, off, h1, fun W hW => ?_⟩
  obtain ⟨b', off', h1', h2, h3⟩ := (h.fr hW).at_ i e he
  rw [h1] at h1'
  cases h1'
  exact ⟨h2, h3⟩

structure WArg where
  pct : Int
  bk : Sl (Int × Int × Int)
  up : Sl Bool
  dr : Sl Bool
  st : Sl (Int × Int × Int)
  cp : Sl Int
  fl : Sl Flow
  wh : Sl Int
def eTri (x : Int × Int × Int) : List Value := [.int .i64 x.1, .int .u32 x.2.1, .int .i64 x.2.2]
def eBool (x : Bool) : List Value := [.bool x]
def eInt (x : Int) : List Value := [.int .i64 x]
def eFlow (f : Flow) : List Value := [.int .i64 f.proto, .int .u32 f.src, .int .u32 f.dst, .int .i64 f.sport, .int .i64 f.dport]
def WArg.cells (x : WArg) : Array Value := #[.int .i64 x.pct, x.bk.val, x.up.val, x.dr.val, x.st.val, x.cp.val, x.fl.val, x.wh.val]
structure WorldIn (w : World) (x : WArg) : Prop where
  bk : SlOf w eTri 3 x.bk
  up : SlOf w eBool 1 x.up
  dr : SlOf w eBool 1 x.dr
  st : SlOf w eTri 3 x.st
  cp : SlOf w eInt 1 x.cp
  fl : SlOf w eFlow 5 x.fl
  wh : SlOf w eInt 1 x.wh
theorem WorldIn.fr {w w' : World} {x : WArg} (h : WorldIn w x) (hf : Fr [] w w') : WorldIn w' x := ⟨h.bk.fr hf, h.up.fr hf, h.dr.fr hf, h.st.fr hf, h.cp.fr hf, h.fl.fr hf, h.wh.fr hf⟩

def poolStep (x : WArg) (P : PoolT) (i : Nat) (b : Int × Int × Int) : PoolT :=
  let P1 := padd P b.1 b.2.1 b.2.2
  let P2 := match x.up.l[i]? with | some u => pchange P1 b.1 (fun m => { m with up := u }) | none => P1
  match x.dr.l[i]? with | some d => pchange P2 b.1 (fun m => { m with drain := d }) | none => P2
def percentOf (n : Int) : Int := 1 + IntKind.u64.wrap n % 100
def poolTo (x : WArg) : Nat → PoolT
  | 0 => ⟨percentOf x.pct, []⟩
  | k + 1 => match x.bk.l[k]? with | some b => poolStep x (poolTo x k) k b | none => poolTo x k

theorem both_make {w0 wa w1 w2 w3 w4 w5 w6 : World} {t mb rr p pb s sm rm u q r : Nat} {n : Int} {F : List Nat} (h0 : Fr [] w0 wa)
    (hT : TabAt w1 t mb rr [] [] ⟨20, 100, 0, []⟩) (t1 : wa.heap.size ≤ t) (t2 : wa.heap.size ≤ mb) (t3 : wa.heap.size ≤ rr) (f1 : Fr [] wa w1)
    (hP : PoolAt w2 p pb ⟨n, []⟩) (n0 : 1 ≤ n) (n1 : n ≤ 100) (p1 : w1.heap.size ≤ p) (p2 : w1.heap.size ≤ pb) (f2 : Fr [] w1 w2)
    (hS : SibAt w3 s sm rm ⟨[], []⟩) (s1 : w2.heap.size ≤ s) (s2 : w2.heap.size ≤ sm) (s3 : w2.heap.size ≤ rm) (f3 : Fr [] w2 w3)
    (hU : UAt w4 u (.slice none 0 0) []) (u1 : w3.heap.size ≤ u) (f4 : Fr [] w3 w4)
    (hQ : QAt w5 q (.slice none 0 0) []) (q1 : w4.heap.size ≤ q) (f5 : Fr [] w4 w5)
    (hV : VAt w6 r (.slice none 0 0) []) (r1 : w5.heap.size ≤ r) (f6 : Fr [] w5 w6) (hF : ∀ x ∈ F, x < wa.heap.size) :
    BothAt w0 w6 t p s u q r F ⟨20, 100, 0, []⟩ ⟨n, []⟩ := by
  have z0 := h0.size
  have z1 := f1.size
  have z2 := f2.size
  have z3 := f3.size
  have z4 := f4.size
  have z5 := f5.size
  have z6 := f6.size
  have hFl : FlowsAt w1 t [t, mb, rr] ⟨20, 100, 0, []⟩ := ⟨mb, rr, [], [], hT, by decide, rfl⟩
  have l1 := hFl.lt
  have l2 := lt_of hP.pool
  have l3 := hP.map.lt
  have l4 := lt_of hS.tab
  have l5 := hS.sites.lt
  have l6 := hS.reps.lt
  have l7 := hU.lt u (by simp [uown])
  have l8 := hQ.lt q (by simp [qown])
  have l9 := hV.lt r (by simp [vown])
  have g1 := (((f2.trans f3 (by simp)).trans f4 (by simp)).trans f5 (by simp)).trans f6 (by simp)
  have g2 := ((f3.trans f4 (by simp)).trans f5 (by simp)).trans f6 (by simp)
  have g3 := (f4.trans f5 (by simp)).trans f6 (by simp)
  have g4 := f5.trans f6 (by simp)
  refine ⟨[t, mb, rr], pb, sm, rm, ⟨[], []⟩, .slice none 0 0, [], .slice none 0 0, [], .slice none 0 0, [],
    fun x => if x < wa.heap.size then 0 else if x < w1.heap.size then 1 else if x < w2.heap.size then 2 else if x < w3.heap.size then 3 else if x < w4.heap.size then 4 else if x < w5.heap.size then 5 else 6,
    ⟨hFl.fr g1 (by simp), hP.fr g2 (by simp) (by simp), ⟨by simp, by simp⟩, n0, n1, hS.fr g3 (by simp) (by simp) (by simp), ⟨by simp, by simp⟩, ?_⟩, hU.fr g4 (by simp), hQ.fr f6 (by simp), hV, ⟨?_, ?_, ?_, ?_, ?_, ?_, ?_⟩, (h0.trans f1 (by simp)).trans g1 (by simp)⟩
  · have a1 := l1 t (by simp)
    have a2 := l1 mb (by simp)
    have a3 := l1 rr (by simp)
    simp only [List.mem_cons, List.not_mem_nil, or_false]
    refine ⟨?_, ?_, ?_, ?_, ?_⟩ <;> omega
  · intro x hx
    have := hF x hx
    exact ⟨by simp only [if_pos this], by omega⟩
  · intro x hx
    have a1 := l1 x hx
    have a2 : wa.heap.size ≤ x := by simp at hx; rcases hx with rfl | rfl | rfl <;> assumption
    exact ⟨by simp only [if_neg (by omega : ¬ x < wa.heap.size), if_pos a1], by omega⟩
  · intro x hx
    have a2 : w1.heap.size ≤ x ∧ x < w2.heap.size := by simp at hx; rcases hx with rfl | rfl <;> omega
    exact ⟨by simp only [if_neg (by omega : ¬ x < wa.heap.size), if_neg (by omega : ¬ x < w1.heap.size), if_pos a2.2], by omega⟩
  · intro x hx
    have a2 : w2.heap.size ≤ x ∧ x < w3.heap.size := by simp at hx; rcases hx with rfl | rfl | rfl <;> omega
    exact ⟨by simp only [if_neg (by omega : ¬ x < wa.heap.size), if_neg (by omega : ¬ x < w1.heap.size), if_neg (by omega : ¬ x < w2.heap.size), if_pos a2.2], by omega⟩
  · intro x hx
    have a2 : w3.heap.size ≤ x ∧ x < w4.heap.size := by simp [uown, Value.ownBlock] at hx; subst hx; omega
    exact ⟨by simp only [if_neg (by omega : ¬ x < wa.heap.size), if_neg (by omega : ¬ x < w1.heap.size), if_neg (by omega : ¬ x < w2.heap.size), if_neg (by omega : ¬ x < w3.heap.size), if_pos a2.2], by omega⟩
  · intro x hx
    have a2 : w4.heap.size ≤ x ∧ x < w5.heap.size := by simp [qown, Value.ownBlock] at hx; subst hx; omega
    exact ⟨by simp only [if_neg (by omega : ¬ x < wa.heap.size), if_neg (by omega : ¬ x < w1.heap.size), if_neg (by omega : ¬ x < w2.heap.size), if_neg (by omega : ¬ x < w3.heap.size), if_neg (by omega : ¬ x < w4.heap.size), if_pos a2.2], by omega⟩
  · intro x hx
    have a2 : w5.heap.size ≤ x := by simp [vown, Value.ownBlock] at hx; subst hx; omega
    exact ⟨by simp only [if_neg (by omega : ¬ x < wa.heap.size), if_neg (by omega : ¬ x < w1.heap.size), if_neg (by omega : ¬ x < w2.heap.size), if_neg (by omega : ¬ x < w3.heap.size), if_neg (by omega : ¬ x < w4.heap.size), if_neg (by omega : ¬ x < w5.heap.size)], by omega⟩
theorem BothAt.sub {w0 W : World} {t p s u q r : Nat} {F G : List Nat} {T : FTab} {P : PoolT} (h : BothAt w0 W t p s u q r F T P) (hG : ∀ x ∈ G, x ∈ F) : BothAt w0 W t p s u q r G T P := by
  obtain ⟨O, pb, sm, rm, S, v, l, qv, ql, rv, rl, col, hb, hu, hq, hv, hc, h0⟩ := h
  exact ⟨O, pb, sm, rm, S, v, l, qv, ql, rv, rl, col, hb, hu, hq, hv, ⟨fun x hx => hc.f x (hG x hx), hc.o, hc.pp, hc.ss, hc.uu, hc.aa, hc.bb⟩, h0⟩
theorem BothAt.drew {w0 W : World} {t p s u q r : Nat} {F : List Nat} {T : FTab} {P : PoolT} (h : BothAt w0 W t p s u q r F T P) : BothAt w0 W.drew t p s u q r F T P := h.free (G := []) ((Fr.refl _ _).drew) (by simp)
theorem BothAt.alloc {w0 W : World} {t p s u q r : Nat} {F : List Nat} {T : FTab} {P : PoolT} (h : BothAt w0 W t p s u q r F T P) (o : Obj) : BothAt w0 (W.alloc o) t p s u q r (W.heap.size :: F) T P := h.new ((Fr.refl _ _).alloc o) (Nat.le_refl _) (by simp)

/-- The boxes of made's own: the world, the tables' pointers, the result. -/
def bcell (t p s u q r : Nat) : Array Value := #[.pointer (some ⟨t, 0, none⟩), .pointer (some ⟨p, 0, none⟩), .pointer (some ⟨s, 0, none⟩), .pointer (some ⟨u, 0, none⟩), .pointer (some ⟨q, 0, none⟩), .pointer (some ⟨r, 0, none⟩)]
structure Boxes (W : World) (x : WArg) (wb bb rb : Nat) (t p s u q r : Nat) : Prop where
  wb : W.heap[wb]? = some (.cells x.cells 28 (0, 0))
  bb : W.heap[bb]? = some (.cells (bcell t p s u q r) 43 (0, 0))
  rb : W.heap[rb]? = some (.cells #[.pointer none, .pointer none, .pointer none, .pointer none, .pointer none, .pointer none] 43 (0, 0))
theorem Boxes.kept {W W' : World} {x : WArg} {wb bb rb : Nat} {t p s u q r : Nat} {F : List Nat} (h : Boxes W x wb bb rb t p s u q r) (hk : Kept F W W') (h1 : wb ∈ F) (h2 : bb ∈ F) (h3 : rb ∈ F) : Boxes W' x wb bb rb t p s u q r := ⟨hk.at h.wb h1, hk.at h.bb h2, hk.at h.rb h3⟩
theorem Boxes.fr {W W' : World} {x : WArg} {wb bb rb : Nat} {t p s u q r : Nat} (h : Boxes W x wb bb rb t p s u q r) (hk : Fr [] W W') : Boxes W' x wb bb rb t p s u q r := ⟨hk.keep h.wb (by simp), hk.keep h.bb (by simp), hk.keep h.rb (by simp)⟩
theorem Boxes.cells {W : World} {x : WArg} {wb bb rb : Nat} {t p s u q r : Nat} (h : Boxes W x wb bb rb t p s u q r) :
    (W.cell? ⟨wb, 1, none⟩ = some (.slice x.bk.ad x.bk.n x.bk.c) ∧ W.cell? ⟨wb, 2, none⟩ = some (.slice x.up.ad x.up.n x.up.c) ∧ W.cell? ⟨wb, 3, none⟩ = some (.slice x.dr.ad x.dr.n x.dr.c) ∧ W.cell? ⟨wb, 4, none⟩ = some (.slice x.st.ad x.st.n x.st.c) ∧ W.cell? ⟨wb, 5, none⟩ = some (.slice x.cp.ad x.cp.n x.cp.c) ∧ W.cell? ⟨wb, 6, none⟩ = some (.slice x.fl.ad x.fl.n x.fl.c) ∧ W.cell? ⟨wb, 7, none⟩ = some (.slice x.wh.ad x.wh.n x.wh.c)) ∧
    (W.cell? ⟨bb, 0, none⟩ = some (.pointer (some ⟨t, 0, none⟩)) ∧ W.cell? ⟨bb, 1, none⟩ = some (.pointer (some ⟨p, 0, none⟩)) ∧ W.cell? ⟨bb, 2, none⟩ = some (.pointer (some ⟨s, 0, none⟩)) ∧ W.cell? ⟨bb, 3, none⟩ = some (.pointer (some ⟨u, 0, none⟩)) ∧ W.cell? ⟨bb, 4, none⟩ = some (.pointer (some ⟨q, 0, none⟩)) ∧ W.cell? ⟨bb, 5, none⟩ = some (.pointer (some ⟨r, 0, none⟩))) ∧
    wb < W.heap.size ∧ bb < W.heap.size :=
  ⟨⟨cell_at h.wb 1 rfl, cell_at h.wb 2 rfl, cell_at h.wb 3 rfl, cell_at h.wb 4 rfl, cell_at h.wb 5 rfl, cell_at h.wb 6 rfl, cell_at h.wb 7 rfl⟩, ⟨cell_at h.bb 0 rfl, cell_at h.bb 1 rfl, cell_at h.bb 2 rfl, cell_at h.bb 3 rfl, cell_at h.bb 4 rfl, cell_at h.bb 5 rfl⟩, lt_of h.wb, lt_of h.bb⟩

theorem six_cells {w : World} {b : Nat} {v0 v1 v2 v3 v4 v5 : Value} {T : TypeId} (h : w.heap[b]? = some (.cells #[v0, v1, v2, v3, v4, v5] T (0, 0))) :
    (w.cell? ⟨b, 0, none⟩ = some v0 ∧ w.cell? ⟨b, 1, none⟩ = some v1 ∧ w.cell? ⟨b, 2, none⟩ = some v2 ∧ w.cell? ⟨b, 3, none⟩ = some v3 ∧ w.cell? ⟨b, 4, none⟩ = some v4 ∧ w.cell? ⟨b, 5, none⟩ = some v5) ∧ w.frozen? ⟨b, 0, none⟩ = false ∧ w.frozen? ⟨b, 1, none⟩ = false ∧ w.frozen? ⟨b, 2, none⟩ = false ∧ w.frozen? ⟨b, 3, none⟩ = false ∧ w.frozen? ⟨b, 4, none⟩ = false ∧ w.frozen? ⟨b, 5, none⟩ = false :=
  ⟨⟨cell_at h 0 rfl, cell_at h 1 rfl, cell_at h 2 rfl, cell_at h 3 rfl, cell_at h 4 rfl, cell_at h 5 rfl⟩, free_at h 0, free_at h 1, free_at h 2, free_at h 3, free_at h 4, free_at h 5⟩
def MadePost (w : World) (x : WArg) (en : Ending) (w' : World) : Prop :=
  ∃ t p s u q r T, en = .returned (.agg (bcell t p s u q r)) ∧ BothAt w w' t p s u q r [] T (poolTo x x.bk.n) ∧ (x.fl.n = 0 → T.l = [])
def Rel1 (w : World) (x : WArg) (wb bb rb : Nat) (t p s u q r : Nat) (i : Value) (wr : World) : Prop :=
  ∃ k : Nat, k ≤ x.bk.n ∧ i = .int .i64 k ∧ BothAt w wr t p s u q r [wb, bb, rb] ⟨20, 100, 0, []⟩ (poolTo x k) ∧ Boxes wr x wb bb rb t p s u q r
def Rel2 (w : World) (x : WArg) (wb bb rb : Nat) (t p s u q r : Nat) (i : Value) (wr : World) : Prop :=
  ∃ k : Nat, k ≤ x.st.n ∧ i = .int .i64 k ∧ BothAt w wr t p s u q r [wb, bb, rb] ⟨20, 100, 0, []⟩ (poolTo x x.bk.n) ∧ Boxes wr x wb bb rb t p s u q r
def Rel3 (w : World) (x : WArg) (wb bb rb : Nat) (t p s u q r : Nat) (i : Value) (wr : World) : Prop :=
  ∃ (k : Nat) (T : FTab), k ≤ x.fl.n ∧ i = .int .i64 k ∧ BothAt w wr t p s u q r [wb, bb, rb] T (poolTo x x.bk.n) ∧ (x.fl.n = 0 → T.l = []) ∧ Boxes wr x wb bb rb t p s u q r
end Go.Proofs.YthahlimmmnmniaaGreatDoor
