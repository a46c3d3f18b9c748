/- The reference's flow table: out. The reference's flow table: New, Put. The reference's flow table: Put. -/
import Derived.Deep.RegionHeld3
import Derived.Deep.QuietTactic
import Derived.BigQuiet
import Derived.Test.YthahlimmmnmniaaGreatDoorR06
import Derived.Test.YthahlimmmnmniaaGreatDoorR10
namespace Go.Proofs.YthahlimmmnmniaaGreatDoor
open Go.RowKit Go.Fw

theorem info_uentry : (Tryz.prog.info? 90).map (fun i => (i.zero, i.size, i.bytes)) = some (some (.agg #[.int .i64 0, .int .u32 0, .int .u32 0, .int .i64 0, .int .i64 0, .int .i64 0, .int .i64 0]), 7, 48) := by kernel_rfl

def UPost (w : World) (u : Nat) (v : Value) (n : Nat) (w' : World) : Prop :=
  ∃ v' l', UAt w' u v' l' ∧ l'.length = n ∧ (∀ k ∈ uown u v', k ∈ uown u v ∨ w.heap.size ≤ k) ∧ Fr [u] w w'

set_option maxHeartbeats 4000000 in
theorem uout_any {w : World} {u : Nat} {v : Value} {l : List Ent} (h : UAt w u v l) (i : Nat) (hi : i < l.length) :
    Calls Tryz.prog 75 #[.pointer (some ⟨u, 0, none⟩), .int .i64 i] w fun en w' => en = .returned (.tuple #[]) ∧ UPost w u v (l.length - 1) w' := by
  obtain ⟨i0, hii, hz0, hz1, hz2⟩ := info_parts info_uentry
  obtain ⟨a, b, c, ht⟩ := h.tab
  obtain ⟨ad, cp, rfl, hnc, hcells⟩ := own_form h.row
  obtain ⟨g, rfl, hgb, hg, hcell⟩ := hcells (by omega)
  obtain ⟨n, hn⟩ : ∃ n, l.length = n := ⟨_, rfl⟩
  rw [hn] at ht hnc ⊢ hi
  have c3 := cell_at ht 3 (v := .slice (some ⟨g, 0, none⟩) n cp) rfl
  have f3 := free_at ht 3
  obtain ⟨p0, p1, p2, p3, _, _⟩ := lts (lt_of ht)
  have hn20 : n ≤ 20 := by have := h.len; omega
  have j0 : (0 : Int) ≤ i := by omega
  have j1 : (i : Int) < n := by omega
  have hcp : n ≤ cp := by omega
  have j2 : (i : Int) ≤ cp := by omega
  have j3 : (i : Int) + 1 ≤ n := by omega
  have j4 : (0 : Int) ≤ (i : Int) + 1 := by omega
  have j5 : (n : Int) ≤ cp := by omega
  have hwr : IntKind.i64.wrap ((i : Int) + 1) = (i : Int) + 1 := by rw [IntKind.wrap_i64]; omega
  have hp2 : ((i : Int) + 1).toNat = i + 1 := by omega
  have hlf : (l.flatMap ucells).length = n * 7 := by rw [← hn]; exact h.row.1
  have hone : ∀ x ∈ l.flatMap ucells, x.oneCell' = true := by
    intro x hx
    obtain ⟨e, _, he⟩ := List.mem_flatMap.1 hx
    simp [ucells] at he
    rcases he with rfl | rfl | rfl | rfl | rfl | rfl | rfl <;> rfl
  have H2 := Lib.hid (And.intro hlf hone)
  clear hlf hone
  have H := Lib.hid (And.intro h (And.intro ht (And.intro hn (And.intro hii (And.intro hz0 (And.intro hz1 hz2))))))
  clear h ht hn hnc hcells hcell hii hz0 hz1 hz2
  go_enter Tryz.func75, Tryz.ntmps75
  go_wp2
  go_region_law ((first
    | ((have hF2 := HP1.out.2.1); refine step_append_src rfl (.tmp 12) (.tmp 19) 127 rfl w.heap.size 90 i0 (.agg #[.int .i64 0, .int .u32 0, .int .u32 0, .int .i64 0, .int .i64 0, .int .i64 0, .int .i64 0]) 7 48 Tryz.underlying127 H.out.2.2.2.1 H.out.2.2.2.2.1 H.out.2.2.2.2.2.1 H.out.2.2.2.2.2.2 rfl (by decide) v2 (0 + i) _ (by simp [Act.eval, Act.put]) (by exact HP1.out.1) (n - (i + 1)) ((l.flatMap ucells).drop ((i + 1) * 7)) (.slice (if cp = i + 1 then some ⟨g, 0, none⟩ else some ⟨g, (i + 1) * 7, none⟩) (n - (i + 1)) (cp - (i + 1))) (by simp [Act.eval, Act.put]) (src_drop_if (w := w) (n := n) (cp := cp) (S := []) (by rw [← H.out.2.2.1]; exact H.out.1.row) (by (repeat (first | (with_reducible exact Fr.refl _ _) | (with_reducible assumption) | (with_reducible refine Fr.drew ?_) | (with_reducible refine Fr.drewN ?_ _) | (with_reducible refine Fr.alloc ?_ _) | (with_reducible refine Fr.mput ?_ _ _ _ (.inl (by simp))) | (with_reducible refine Fr.mdel ?_ _ _ (.inl (by simp))) | (with_reducible refine Fr.set ?_ _ _ (.inr (by first | omega | (dsimp only; omega)))) | (with_reducible refine Fr.set ?_ _ _ (.inl (by simp)))))) (by simp) (by omega)) (fun x hx => H2.out.2 x (List.mem_of_mem_drop hx)) (by unfold maxLen; omega) (by omega) (Nat.le_trans (Nat.le_succ _) HP1.out.2.2.1) ?_; intro v3 w3 hown3 hg3; obtain ⟨ad3, cp3, rfl, hnc3, hc3⟩ := own_form hown3; clear hnc3 hc3; (have hF3 := Fr.grown (S := []) (a := w) (by (repeat (first | (with_reducible exact Fr.refl _ _) | (with_reducible assumption) | (with_reducible refine Fr.drew ?_) | (with_reducible refine Fr.drewN ?_ _) | (with_reducible refine Fr.alloc ?_ _) | (with_reducible refine Fr.mput ?_ _ _ _ (.inl (by simp))) | (with_reducible refine Fr.mdel ?_ _ _ (.inl (by simp))) | (with_reducible refine Fr.set ?_ _ _ (.inr (by first | omega | (dsimp only; omega)))) | (with_reducible refine Fr.set ?_ _ _ (.inl (by simp)))))) hg3 (fun k hk => .inr (own_base HP1.out.1 k hk))); (have q3 : w3.cell? ⟨u, 3, none⟩ = some (.slice (some ⟨g, 0, none⟩) n cp) := (hF3.cell (by simp; omega) (by simp)).trans c3); (have e3 : w3.frozen? ⟨u, 3, none⟩ = false := (hF3.free (by simp; omega) (by simp)).trans f3); (have l3 : u < w3.heap.size := Nat.lt_of_lt_of_le p0 hF3.size); (have HP2 := Lib.hid (And.intro hown3 hF3)); clear hown3 hg3 hF3 hF2)
    | (refine step_append_src rfl (.tmp 5) (.tmp 11) 127 rfl w.heap.size 90 i0 (.agg #[.int .i64 0, .int .u32 0, .int .u32 0, .int .i64 0, .int .i64 0, .int .i64 0, .int .i64 0]) 7 48 Tryz.underlying127 H.out.2.2.2.1 H.out.2.2.2.2.1 H.out.2.2.2.2.2.1 H.out.2.2.2.2.2.2 rfl (by decide) (.slice (some ⟨w.heap.size, 0, none⟩) 0 0) 0 [] (by simp [Act.eval, Act.put]) (by exact own_made w 90 7) i ((l.flatMap ucells).take (i * 7)) (.slice (some ⟨g, 0, none⟩) i cp) (by simp [Act.eval, Act.put]) (src_take (w := w) (n := n) (S := []) (by rw [← H.out.2.2.1]; exact H.out.1.row) (by (repeat (first | (with_reducible exact Fr.refl _ _) | (with_reducible assumption) | (with_reducible refine Fr.drew ?_) | (with_reducible refine Fr.drewN ?_ _) | (with_reducible refine Fr.alloc ?_ _) | (with_reducible refine Fr.mput ?_ _ _ _ (.inl (by simp))) | (with_reducible refine Fr.mdel ?_ _ _ (.inl (by simp))) | (with_reducible refine Fr.set ?_ _ _ (.inr (by first | omega | (dsimp only; omega)))) | (with_reducible refine Fr.set ?_ _ _ (.inl (by simp)))))) (by simp) (by omega) (by simp)) (fun x hx => H2.out.2 x (List.mem_of_mem_take hx)) (by unfold maxLen; omega) (by omega) (by simp) ?_; intro v2 w2 hown2 hg2; (have hF2 := Fr.grown (S := []) (a := w) (by (repeat (first | (with_reducible exact Fr.refl _ _) | (with_reducible assumption) | (with_reducible refine Fr.drew ?_) | (with_reducible refine Fr.drewN ?_ _) | (with_reducible refine Fr.alloc ?_ _) | (with_reducible refine Fr.mput ?_ _ _ _ (.inl (by simp))) | (with_reducible refine Fr.mdel ?_ _ _ (.inl (by simp))) | (with_reducible refine Fr.set ?_ _ _ (.inr (by first | omega | (dsimp only; omega)))) | (with_reducible refine Fr.set ?_ _ _ (.inl (by simp)))))) hg2 (fun k hk => .inr (by simp [Value.ownBlock] at hk; omega))); (have q2 : w2.cell? ⟨u, 3, none⟩ = some (.slice (some ⟨g, 0, none⟩) n cp) := (hF2.cell (by simp; omega) (by simp)).trans c3); (have HP1 := Lib.hid (And.intro hown2 (And.intro hF2 (And.intro (show w.heap.size + 1 ≤ w2.heap.size from by have := hg2.size; simpa using this) trivial)))); clear hown2 hg2 hF2)))
  all_goals go_wp2
  all_goals go_returns
  all_goals obtain ⟨hown3, hF3⟩ := HP2.out
  all_goals obtain ⟨h, ht, hn, _⟩ := H.out
  all_goals refine ⟨rfl, _, l.take i ++ l.drop (i + 1), ⟨⟨a, b, c, by rw [heap_set (hF3.keep ht (by simp))]; rfl⟩, ?_, ?_⟩, ?_, ?_, (hF3.mono (by simp)).set _ _ (.inl (by simp))⟩
  all_goals first
    | (have hz := fun x => urow_cut (u := u) hown3 hn hi (by omega) x
       simp only [Nat.zero_add] at hz
       exact hz _)
    | (simp; omega)
    | (intro k hk
       rcases List.mem_cons.1 hk with rfl | hk
       · exact .inl (by simp [uown])
       · exact .inr (own_base hown3 k (by simpa using hk)))
end Go.Proofs.YthahlimmmnmniaaGreatDoor

namespace Go.Proofs.YthahlimmmnmniaaGreatDoor
open Go.RowKit Go.Fw

set_option maxHeartbeats 400000 in
theorem unew_any (w : World) : Calls Tryz.prog 25 #[.int .i64 20, .int .i64 100] w fun en w' => en = .returned (.pointer (some ⟨w.heap.size, 0, none⟩)) ∧ UAt w' w.heap.size (.slice none 0 0) [] ∧ Fr [] w w' := by
  go_enter Tryz.func25, Tryz.ntmps25
  go_wp2
  go_returns
  refine ⟨rfl, ⟨⟨0, 0, 0, ?_⟩, World.ownsRow_nil _ _ _ _, by simp⟩, by (repeat (first | (with_reducible exact Fr.refl _ _) | (with_reducible assumption) | (with_reducible refine Fr.drew ?_) | (with_reducible refine Fr.drewN ?_ _) | (with_reducible refine Fr.alloc ?_ _) | (with_reducible refine Fr.mput ?_ _ _ _ (.inl (by simp))) | (with_reducible refine Fr.mdel ?_ _ _ (.inl (by simp))) | (with_reducible refine Fr.set ?_ _ _ (.inr (by first | omega | (dsimp only; omega)))) | (with_reducible refine Fr.set ?_ _ _ (.inl (by simp)))))⟩
  rw [heap_alloc_if, if_pos rfl]
end Go.Proofs.YthahlimmmnmniaaGreatDoor

namespace Go.Proofs.YthahlimmmnmniaaGreatDoor
open Go.RowKit Go.Fw

theorem ucells_one (l : List Ent) : ∀ x ∈ l.flatMap ucells, x.oneCell' = true := by
  intro x hx
  obtain ⟨e, _, he⟩ := List.mem_flatMap.1 hx
  simp [ucells] at he
  rcases he with rfl | rfl | rfl | rfl | rfl | rfl | rfl <;> rfl

def UPutPost (w : World) (u : Nat) (v : Value) (en : Ending) (w' : World) : Prop :=
  (∃ x, en = .returned x) ∧ ∃ v' l', UAt w' u v' l' ∧ (∀ k ∈ uown u v', k ∈ uown u v ∨ w.heap.size ≤ k) ∧ Fr [u] w w'

theorem uput_done {w w3 w5 W : World} {u n3 c : Nat} {v v3 v5 : Value} {l3 : List Ent} (e : Ent) (hul : u < w.heap.size) (hU3 : UAt w3 u v3 l3) (hn3 : l3.length = n3) (hlen : n3 ≤ 19) (hF3 : Fr [u] w w3)
    (hown5 : w5.ownsRow w3.heap.size 90 7 v5 (n3 + 1) (l3.flatMap ucells ++ ucells e)) (hF5 : Fr [] w3 w5) (hc : w.heap.size ≤ c) (hcl : c < w3.heap.size) (hW : Fr [c] (w5.setCell ⟨u, 3, none⟩ v5) W) :
    ∃ v' l', UAt W u v' l' ∧ (∀ k ∈ uown u v', k ∈ uown u v ∨ w.heap.size ≤ k) ∧ Fr [u] w W := by
  obtain ⟨a1, a2, a3, ht⟩ := hU3.tab
  have hs3 := hF3.size
  have e1 : n3 + 1 = (l3 ++ [e]).length := by simp [hn3]
  have e2 : l3.flatMap ucells ++ ucells e = (l3 ++ [e]).flatMap ucells := by simp
  rw [e1, e2] at hown5
  refine ⟨v5, l3 ++ [e], ⟨⟨a1, a2, a3, ?_⟩, ?_, ?_⟩, ?_, ?_⟩
  · refine hW.keep (by rw [heap_set (hF5.keep ht (by simp))]; rfl) (by simp; omega)
  · exact own_lower (own_fr (own_fr hown5 ((Fr.refl [u] w5).set _ _ (.inl (by simp))) (by simp; omega)) hW (by simp; omega)) (by omega)
  · simp; omega
  · intro k hk
    rcases List.mem_cons.1 hk with rfl | hk
    · exact .inl (by simp [uown])
    · exact .inr (Nat.le_trans hs3 (own_base hown5 k (by simpa using hk)))
  · exact ((hF3.trans hF5 (by simp)).set _ _ (.inl (by simp))).trans hW (by simp; omega)
theorem ent_cells {w : World} {b : Nat} {v0 v1 v2 v3 v4 v5 v6 : Value} (h : w.heap[b]? = some (.cells #[v0, v1, v2, v3, v4, v5, v6] 90 (0, 0))) :
    (w.cell? ⟨b, 0, none⟩ = some v0 ∧ w.cell? ⟨b, 1, none⟩ = some v1 ∧ w.cell? ⟨b, 2, none⟩ = some v2 ∧ w.cell? ⟨b, 3, none⟩ = some v3 ∧ w.cell? ⟨b, 4, none⟩ = some v4 ∧ w.cell? ⟨b, 5, none⟩ = some v5 ∧ w.cell? ⟨b, 6, none⟩ = some v6) ∧ w.frozen? ⟨b, 0, none⟩ = false ∧ w.frozen? ⟨b, 1, none⟩ = false ∧ w.frozen? ⟨b, 2, none⟩ = false ∧ w.frozen? ⟨b, 3, none⟩ = false ∧ w.frozen? ⟨b, 4, none⟩ = false ∧ w.frozen? ⟨b, 5, none⟩ = false ∧ w.frozen? ⟨b, 6, none⟩ = false :=
  ⟨⟨cell_at h 0 rfl, cell_at h 1 rfl, cell_at h 2 rfl, cell_at h 3 rfl, cell_at h 4 rfl, cell_at h 5 rfl, cell_at h 6 rfl⟩, free_at h 0, free_at h 1, free_at h 2, free_at h 3, free_at h 4, free_at h 5, free_at h 6⟩

theorem UAt.set45 {w : World} {u i : Nat} {v : Value} {l : List Ent} (h : UAt w u v l) (hi : i = 4 ∨ i = 5) (x : Int) : UAt (w.setCell ⟨u, i, none⟩ (.int .i64 x)) u v l := by
  obtain ⟨a, b, c, ht⟩ := h.tab
  refine ⟨?_, own_fr h.row ((Fr.refl [u] w).set _ _ (.inl (by simp))) (by simp), h.len⟩
  rcases hi with rfl | rfl
  · exact ⟨a, x, c, by rw [heap_set ht]; rfl⟩
  · exact ⟨a, b, x, by rw [heap_set ht]; rfl⟩
set_option maxHeartbeats 4000000 in
theorem uput_any {w : World} {u : Nat} {v : Value} {l : List Ent} (h : UAt w u v l) (f : Flow) (b now : Int) :
    Calls Tryz.prog 36 #[.pointer (some ⟨u, 0, none⟩), .agg #[.int .i64 f.proto, .int .u32 f.src, .int .u32 f.dst, .int .i64 f.sport, .int .i64 f.dport], .int .i64 b, .int .i64 now] w (UPutPost w u v) := by
  obtain ⟨i0, hii, hz0, hz1, hz2⟩ := info_parts info_uentry
  have HI := Lib.hid (And.intro hii (And.intro hz0 (And.intro hz1 hz2)))
  clear hii hz0 hz1 hz2
  have hul := h.lt u (by simp [uown])
  have htime := fun o o' => utime_any (h.fr (((Fr.refl [] w).alloc o).alloc o') (by simp)) now
  have H := Lib.hid (And.intro h htime)
  clear h htime
  go_enter Tryz.func36, Tryz.ntmps36
  go_wp2_with fail
  refine (H.out.2 _ _).mono ?_
  rintro en w1 ⟨x, rfl, hU1, hfr1⟩
  have hF1 : Fr [u] w w1 := Fr.trans (S := [u]) (a := w) (by (repeat (first | (with_reducible exact Fr.refl _ _) | (with_reducible assumption) | (with_reducible refine Fr.drew ?_) | (with_reducible refine Fr.drewN ?_ _) | (with_reducible refine Fr.alloc ?_ _) | (with_reducible refine Fr.mput ?_ _ _ _ (.inl (by simp))) | (with_reducible refine Fr.mdel ?_ _ _ (.inl (by simp))) | (with_reducible refine Fr.set ?_ _ _ (.inr (by first | omega | (dsimp only; omega)))) | (with_reducible refine Fr.set ?_ _ _ (.inl (by simp)))))) hfr1 (by simp)
  have hfl := hfr1.keep (k := w.heap.size) (o := .cells #[.int .i64 f.proto, .int .u32 f.src, .int .u32 f.dst, .int .i64 f.sport, .int .i64 f.dport] 31 (0, 0)) (by rw [heap_alloc_if, if_neg (by simp), heap_alloc_if, if_pos rfl]) (by simp; omega)
  have hre := hfr1.keep (k := w.heap.size + 1) (o := .cells #[.int .i64 0, .int .u32 0, .int .u32 0, .int .i64 0, .int .i64 0, .int .i64 0, .int .i64 0] 90 (0, 0)) (by rw [heap_alloc_if, if_pos (by simp)]) (by simp; omega)
  obtain ⟨v0, v1, v2, v3, v4⟩ := flow_cells hfl
  have hsz1 := lt_of hre
  have hsz0 := lt_of hfl
  have hul1 : u < w1.heap.size := by omega
  have hfind := fun o => ufind_any (hU1.fr ((Fr.refl [] w1).alloc o) (by simp)) f
  have H1 := Lib.hid (And.intro hU1 (And.intro hF1 (And.intro hfl (And.intro hre hfind))))
  clear hU1 hF1 hfr1 hfl hre hfind
  go_wp2_with fail
  refine (H1.out.2.2.2.2 _).mono ?_
  rintro en w2 ⟨r, rfl, hr0, hr1, hfr2⟩
  by_cases hr : 0 ≤ r
  · obtain ⟨i, rfl⟩ := Int.eq_ofNat_of_zero_le hr
    have hF2 : Fr [] w1 w2 := Fr.trans (S := []) (a := w1) (by (repeat (first | (with_reducible exact Fr.refl _ _) | (with_reducible assumption) | (with_reducible refine Fr.drew ?_) | (with_reducible refine Fr.drewN ?_ _) | (with_reducible refine Fr.alloc ?_ _) | (with_reducible refine Fr.mput ?_ _ _ _ (.inl (by simp))) | (with_reducible refine Fr.mdel ?_ _ _ (.inl (by simp))) | (with_reducible refine Fr.set ?_ _ _ (.inr (by first | omega | (dsimp only; omega)))) | (with_reducible refine Fr.set ?_ _ _ (.inl (by simp)))))) hfr2 (by simp)
    have hout := uout_any (H1.out.1.fr hF2 (by simp)) i (by omega)
    have hgo := hfr2.keep (k := w1.heap.size) (o := .cells #[.int .i64 0, .int .u32 0, .int .u32 0, .int .i64 0, .int .i64 0, .int .i64 0, .int .i64 0] 90 (0, 0)) (heap_new w1 _) (by simp)
    have hsg := lt_of hgo
    have H2 := Lib.hid (And.intro hF2 (And.intro hout (And.intro hfr2 hgo)))
    clear hF2 hout hfr2 hgo
    go_wp2_with fail
    refine H2.out.2.1.mono ?_
    rintro en w3 ⟨rfl, v3, l3, hU3, hl3, hown3, hfr3⟩
    have hF3 : Fr [u] w w3 := (H1.out.2.1.trans H2.out.1 (by simp)).trans hfr3 (by simp)
    have hl19 : l3.length ≤ 19 := by have := H1.out.1.len; omega
    have hfl3 := hfr3.keep (H2.out.1.keep H1.out.2.2.1 (by simp)) (by simp; omega)
    obtain ⟨g0, g1, g2, g3, g4, g5, g6, hg3⟩ : ∃ g0 g1 g2 g3 g4 g5 g6, w3.heap[w1.heap.size]? = some (.cells #[.int .i64 g0, .int .u32 g1, .int .u32 g2, .int .i64 g3, .int .i64 g4, .int .i64 g5, .int .i64 g6] 90 (0, 0)) := ⟨_, _, _, _, _, _, _, hfr3.keep H2.out.2.2.2 (by simp; omega)⟩
    have B3 := Lib.hid (And.intro (hfr3.keep (H2.out.1.keep H1.out.2.2.2.1 (by simp)) (by simp; omega)) hg3)
    clear hg3
    obtain ⟨n3, hn3⟩ : ∃ n3, l3.length = n3 := ⟨_, rfl⟩
    obtain ⟨ad3, cp3, rfl, hsrc3⟩ := own_src hU3.row
    obtain ⟨a3, b3, c3, ht3⟩ := hU3.tab
    rw [hn3] at ht3 hl19 hsrc3
    have t3 := cell_at ht3 3 (v := .slice ad3 n3 cp3) rfl
    have ft3 := free_at ht3 3
    have lu3 := lt_of ht3
    obtain ⟨y0, y1, y2, y3, y4⟩ := flow_cells hfl3
    have ly := lt_of hfl3
    have hone := ucells_one l3
    have lr3 := lt_of B3.out.1
    have T3 := Lib.hid (And.intro hU3 (And.intro ht3 (And.intro hn3 (And.intro hone (And.intro hsrc3 hF3)))))
    clear hU3 ht3 hn3 hone hsrc3 hF3 hfl3
    go_wp2
    refine wp_region_zed (P := Tryz.prog) (fun wz => Fr [] w3 wz) 15 (by kernel_rfl) ?_ (fun hS => ?_)
    · exact (Fr.refl [] _).drew
    refine wpAnyZ_take (i := 0) (oi := { dst := some 56, op := Go.Op.move (Go.Operand.tmp 0), type := 39, pos := "ref.go:96", after := #[], guard := none }) (v := _) rfl (by kernel_rfl) (by kernel_rfl) (by kernel_rfl) (by kernel_rfl) (by kernel_rfl) (fun _ _ _ h => h) (Or.inl ⟨by rfl, by (intro w' hSw; (try dsimp only at hSw); go_simp); (try (with_reducible rfl))⟩) (by assumption) ?_
    simp only [Act.put, List.setIfInBounds_toArray, List.set_cons_zero, List.set_cons_succ]
    refine wpAnyZ_take (i := 2) (oi := { dst := some 58, op := Go.Op.move (Go.Operand.tmp 0), type := 39, pos := "ref.go:96", after := #[], guard := none }) (v := _) rfl (by kernel_rfl) (by kernel_rfl) (by kernel_rfl) (by kernel_rfl) (by kernel_rfl) (fun _ _ _ h => h) (Or.inl ⟨by rfl, by (intro w' hSw; (try dsimp only at hSw); go_simp); (try (with_reducible rfl))⟩) (by assumption) ?_
    simp only [Act.put, List.setIfInBounds_toArray, List.set_cons_zero, List.set_cons_succ]
    refine wpAnyZ_take (i := 3) (oi := { dst := some 59, op := Go.Op.nilCheck (Go.Operand.tmp 58), type := 0, pos := "ref.go:96", after := #[{ on := 2, ground := Go.Ground.data }], guard := none }) (v := _) rfl (by kernel_rfl) (by kernel_rfl) (by kernel_rfl) (by kernel_rfl) (by kernel_rfl) (fun _ _ _ h => h) (Or.inl ⟨by rfl, by (intro w' hSw; (try dsimp only at hSw); go_simp); (try (with_reducible rfl))⟩) (by assumption) ?_
    simp only [Act.put, List.setIfInBounds_toArray, List.set_cons_zero, List.set_cons_succ]
    refine wpAnyZ_take (i := 4) (oi := { dst := some 60, op := Go.Op.fieldAddr 129 (Go.Operand.tmp 59) 3, type := 0, pos := "ref.go:96", after := #[{ on := 3, ground := Go.Ground.data }], guard := none }) (v := _) rfl (by kernel_rfl) (by kernel_rfl) (by kernel_rfl) (by kernel_rfl) (by kernel_rfl) (fun _ _ _ h => h) (Or.inl ⟨by rfl, by (intro w' hSw; (try dsimp only at hSw); go_simp); (try (with_reducible rfl))⟩) (by assumption) ?_
    simp only [Act.put, List.setIfInBounds_toArray, List.set_cons_zero, List.set_cons_succ]
    refine wpAnyZ_take (i := 5) (oi := { dst := some 61, op := Go.Op.load 127 (Go.Operand.tmp 60), type := 127, pos := "ref.go:96", after := #[{ on := 4, ground := Go.Ground.data }], guard := none }) (v := _) rfl (by kernel_rfl) (by kernel_rfl) (by kernel_rfl) (by kernel_rfl) (by kernel_rfl) (fun _ _ _ h => h) (Or.inl ⟨by rfl, by (intro w' hSw; have k0 := (hSw.cell (a := ⟨w.heap.size, 0, none⟩) ly (by simp)).trans y0; have k1 := (hSw.cell (a := ⟨w.heap.size, 1, none⟩) ly (by simp)).trans y1; have k2 := (hSw.cell (a := ⟨w.heap.size, 2, none⟩) ly (by simp)).trans y2; have k3 := (hSw.cell (a := ⟨w.heap.size, 3, none⟩) ly (by simp)).trans y3; have k4 := (hSw.cell (a := ⟨w.heap.size, 4, none⟩) ly (by simp)).trans y4; have k5 := (hSw.cell (a := ⟨u, 3, none⟩) lu3 (by simp)).trans t3; (try dsimp only at hSw); go_simp); (try (with_reducible rfl))⟩) (by assumption) ?_
    simp only [Act.put, List.setIfInBounds_toArray, List.set_cons_zero, List.set_cons_succ]
    refine wpAnyZ_take (i := 7) (oi := { dst := some 63, op := Go.Op.load 31 (Go.Operand.tmp 5), type := 31, pos := "ref.go:96", after := #[], guard := none }) (v := _) rfl (by kernel_rfl) (by kernel_rfl) (by kernel_rfl) (by kernel_rfl) (by kernel_rfl) (fun _ _ _ h => h) (Or.inl ⟨by rfl, by (intro w' hSw; have k0 := (hSw.cell (a := ⟨w.heap.size, 0, none⟩) ly (by simp)).trans y0; have k1 := (hSw.cell (a := ⟨w.heap.size, 1, none⟩) ly (by simp)).trans y1; have k2 := (hSw.cell (a := ⟨w.heap.size, 2, none⟩) ly (by simp)).trans y2; have k3 := (hSw.cell (a := ⟨w.heap.size, 3, none⟩) ly (by simp)).trans y3; have k4 := (hSw.cell (a := ⟨w.heap.size, 4, none⟩) ly (by simp)).trans y4; have k5 := (hSw.cell (a := ⟨u, 3, none⟩) lu3 (by simp)).trans t3; (try dsimp only at hSw); go_simp); (try (with_reducible rfl))⟩) (by assumption) ?_
    simp only [Act.put, List.setIfInBounds_toArray, List.set_cons_zero, List.set_cons_succ]
    refine wpAnyZ_take (i := 8) (oi := { dst := some 64, op := Go.Op.move (Go.Operand.tmp 2), type := 3, pos := "ref.go:96", after := #[], guard := none }) (v := _) rfl (by kernel_rfl) (by kernel_rfl) (by kernel_rfl) (by kernel_rfl) (by kernel_rfl) (fun _ _ _ h => h) (Or.inl ⟨by rfl, by (intro w' hSw; (try dsimp only at hSw); go_simp); (try (with_reducible rfl))⟩) (by assumption) ?_
    simp only [Act.put, List.setIfInBounds_toArray, List.set_cons_zero, List.set_cons_succ]
    refine wpAnyZ_take (i := 9) (oi := { dst := some 65, op := Go.Op.move (Go.Operand.tmp 3), type := 3, pos := "ref.go:96", after := #[], guard := none }) (v := _) rfl (by kernel_rfl) (by kernel_rfl) (by kernel_rfl) (by kernel_rfl) (by kernel_rfl) (fun _ _ _ h => h) (Or.inl ⟨by rfl, by (intro w' hSw; (try dsimp only at hSw); go_simp); (try (with_reducible rfl))⟩) (by assumption) ?_
    simp only [Act.put, List.setIfInBounds_toArray, List.set_cons_zero, List.set_cons_succ]
    refine wpAnyZ_take (i := 10) (oi := { dst := some 66, op := Go.Op.build 90 #[(0, Go.Operand.tmp 63), (1, Go.Operand.tmp 64), (2, Go.Operand.tmp 65)], type := 90, pos := "ref.go:96", after := #[{ on := 7, ground := Go.Ground.data }, { on := 8, ground := Go.Ground.data }, { on := 9, ground := Go.Ground.data }], guard := none }) (v := _) rfl (by kernel_rfl) (by kernel_rfl) (by kernel_rfl) (by kernel_rfl) (by kernel_rfl) (fun _ _ _ h => h) (Or.inl ⟨by rfl, by (intro w' hSw; (try dsimp only at hSw); go_simp); (try (with_reducible rfl))⟩) (by assumption) ?_
    simp only [Act.put, List.setIfInBounds_toArray, List.set_cons_zero, List.set_cons_succ]
    refine wpAnyZ_ready (rs := [1, 11]) (by kernel_rfl) (by simp) ?_
    refine ZedOne.cons (o := { dst := some 57, op := Go.Op.buildSlice 127 0 #[], type := 127, pos := "ref.go:96", after := #[], guard := none }) rfl (fun K hK => ?_) ?_
    go_simp
    refine hK.out _ _ ?_ (fun hSn => ?_)
    · (try dsimp only at hS ⊢); (repeat (first | (with_reducible exact Fr.refl _ _) | (with_reducible assumption) | (with_reducible refine Fr.drew ?_) | (with_reducible refine Fr.drewN ?_ _) | (with_reducible refine Fr.alloc ?_ _) | (with_reducible refine Fr.mput ?_ _ _ _ (.inl (by simp))) | (with_reducible refine Fr.mdel ?_ _ _ (.inl (by simp))) | (with_reducible refine Fr.set ?_ _ _ (.inr (by first | omega | (dsimp only; omega)))) | (with_reducible refine Fr.set ?_ _ _ (.inl (by simp)))))
    clear hK K hS
    have hS := hSn
    clear hSn
    (try simp only [Act.put, List.setIfInBounds_toArray, List.set_cons_zero, List.set_cons_succ])
    refine wpAnyZ_ready (rs := [6, 11]) (by kernel_rfl) (by simp) ?_
    refine ZedOne.cons (o := { dst := some 62, op := Go.Op.call { callee := Go.Callee.builtin Go.Builtin.append, args := #[Go.Operand.tmp 57, Go.Operand.tmp 61], argTypes := #[127, 127] }, type := 127, pos := "ref.go:96", after := #[{ on := 1, ground := Go.Ground.data }, { on := 5, ground := Go.Ground.data }], guard := none }) rfl (fun K hK => ?_) ?_
    refine step_append_src rfl (.tmp 57) (.tmp 61) 127 rfl w3.heap.size 90 i0 (.agg #[.int .i64 0, .int .u32 0, .int .u32 0, .int .i64 0, .int .i64 0, .int .i64 0, .int .i64 0]) 7 48 Tryz.underlying127 HI.out.1 HI.out.2.1 HI.out.2.2.1 HI.out.2.2.2 rfl (by decide) _ 0 [] (by rfl) (own_empty (by first | exact heap_new _ _ | exact (by (try simp only [heap_drewN, heap_drew, heap_alloc_if, World.size_alloc, World.size_setCell, size_mput, size_mdel]); (first | (simp; done) | (simp [zeroEntry]; done) | (simp; omega) | (simp [zeroEntry]; omega)))) (by first | (simp; done) | (simp; omega))) n3 (l3.flatMap ucells) (.slice ad3 n3 cp3) rfl (T3.out.2.2.2.2.1 _ hS) T3.out.2.2.2.1 (by unfold maxLen; omega) (by omega) (by first | (simp; done) | (simp; omega)) ?_
    intro v4 w4 hown4 hg4
    simp only [Nat.zero_add, List.nil_append] at hown4
    have HP1 := Lib.hid (And.intro hown4 (And.intro (Fr.grown (S := []) (a := w3) (by (repeat (first | (with_reducible exact Fr.refl _ _) | (with_reducible assumption) | (with_reducible refine Fr.drew ?_) | (with_reducible refine Fr.drewN ?_ _) | (with_reducible refine Fr.alloc ?_ _) | (with_reducible refine Fr.mput ?_ _ _ _ (.inl (by simp))) | (with_reducible refine Fr.mdel ?_ _ _ (.inl (by simp))) | (with_reducible refine Fr.set ?_ _ _ (.inr (by first | omega | (dsimp only; omega)))) | (with_reducible refine Fr.set ?_ _ _ (.inl (by simp)))))) hg4 (fun k hk => .inr (by simp [Value.ownBlock] at hk; omega))) (fun (B : Nat) (o : Obj) (h : _ = some o) (hne : _) => (hg4.block B (lt_of h) hne).trans h)))
    clear hown4 hg4
    refine hK.out _ _ ?_ (fun hSn => ?_)
    · exact HP1.out.2.1
    clear hK K hS
    have hS := hSn
    clear hSn
    (try simp only [Act.put, List.setIfInBounds_toArray, List.set_cons_zero, List.set_cons_succ])
    refine wpAnyZ_ready (rs := [11]) (by kernel_rfl) (by simp) ?_
    refine ZedOne.cons (o := { dst := some 67, op := Go.Op.buildSlice 127 1 #[(0, Go.Operand.tmp 66)], type := 127, pos := "ref.go:96", after := #[{ on := 10, ground := Go.Ground.data }], guard := none }) rfl (fun K hK => ?_) ?_
    go_simp
    refine hK.out _ _ ?_ (fun hSn => ?_)
    · (try dsimp only at hS ⊢); (repeat (first | (with_reducible exact Fr.refl _ _) | (with_reducible assumption) | (with_reducible refine Fr.drew ?_) | (with_reducible refine Fr.drewN ?_ _) | (with_reducible refine Fr.alloc ?_ _) | (with_reducible refine Fr.mput ?_ _ _ _ (.inl (by simp))) | (with_reducible refine Fr.mdel ?_ _ _ (.inl (by simp))) | (with_reducible refine Fr.set ?_ _ _ (.inr (by first | omega | (dsimp only; omega)))) | (with_reducible refine Fr.set ?_ _ _ (.inl (by simp)))))
    clear hK K hS
    have hS := hSn
    clear hSn
    (try simp only [Act.put, List.setIfInBounds_toArray, List.set_cons_zero, List.set_cons_succ])
    refine wpAnyZ_ready (rs := [12]) (by kernel_rfl) (by simp) ?_
    refine ZedOne.cons (o := { dst := some 68, op := Go.Op.call { callee := Go.Callee.builtin Go.Builtin.append, args := #[Go.Operand.tmp 62, Go.Operand.tmp 67], argTypes := #[127, 127] }, type := 127, pos := "ref.go:96", after := #[{ on := 6, ground := Go.Ground.data }, { on := 11, ground := Go.Ground.data }, { on := 6, ground := Go.Ground.chain }], guard := none }) rfl (fun K hK => ?_) ?_
    refine step_append_src rfl (.tmp 62) (.tmp 67) 127 rfl w3.heap.size 90 i0 (.agg #[.int .i64 0, .int .u32 0, .int .u32 0, .int .i64 0, .int .i64 0, .int .i64 0, .int .i64 0]) 7 48 Tryz.underlying127 HI.out.1 HI.out.2.1 HI.out.2.2.1 HI.out.2.2.2 rfl (by decide) v4 n3 _ rfl (own_fr (S := []) (w := w4) HP1.out.1 (by (repeat (first | (with_reducible exact Fr.refl _ _) | (with_reducible assumption) | (with_reducible refine Fr.drew ?_) | (with_reducible refine Fr.drewN ?_ _) | (with_reducible refine Fr.alloc ?_ _) | (with_reducible refine Fr.mput ?_ _ _ _ (.inl (by simp))) | (with_reducible refine Fr.mdel ?_ _ _ (.inl (by simp))) | (with_reducible refine Fr.set ?_ _ _ (.inr (by first | omega | (dsimp only; omega)))) | (with_reducible refine Fr.set ?_ _ _ (.inl (by simp)))))) (by simp)) 1 [.int .i64 f.proto, .int .u32 f.src, .int .u32 f.dst, .int .i64 f.sport, .int .i64 f.dport, .int .i64 b, .int .i64 x] _ rfl (src_one (e := 90) (by first | exact heap_new _ _ | exact HP1.out.2.2 _ _ (by first | exact heap_new _ _ | exact (by (try simp only [heap_drewN, heap_drew, heap_alloc_if, World.size_alloc, World.size_setCell, size_mput, size_mdel]); (first | (simp; done) | (simp [zeroEntry]; done) | (simp; omega) | (simp [zeroEntry]; omega)))) (by simp [Value.ownBlock])) rfl) (by intro z hz; simp at hz; rcases hz with rfl | rfl | rfl | rfl | rfl | rfl | rfl <;> rfl) (by unfold maxLen; omega) (by omega) (Nat.le_trans HP1.out.2.1.size (by simp)) ?_
    intro v5 w5 hown5 hg5
    obtain ⟨ad5, cp5, rfl, hnc5⟩ := own_form' hown5
    clear hnc5
    have HP2 := Lib.hid (And.intro hown5 (Fr.grown (S := []) (a := w3) (by (repeat (first | (with_reducible exact Fr.refl _ _) | (with_reducible assumption) | (with_reducible refine Fr.drew ?_) | (with_reducible refine Fr.drewN ?_ _) | (with_reducible refine Fr.alloc ?_ _) | (with_reducible refine Fr.mput ?_ _ _ _ (.inl (by simp))) | (with_reducible refine Fr.mdel ?_ _ _ (.inl (by simp))) | (with_reducible refine Fr.set ?_ _ _ (.inr (by first | omega | (dsimp only; omega)))) | (with_reducible refine Fr.set ?_ _ _ (.inl (by simp)))))) hg5 (fun k hk => .inr (own_base HP1.out.1 k hk))))
    clear hown5 hg5
    refine hK.out _ _ ?_ (fun hSn => ?_)
    · exact HP2.out.2
    clear hK K hS
    have hS := hSn
    clear hSn
    (try simp only [Act.put, List.setIfInBounds_toArray, List.set_cons_zero, List.set_cons_succ])
    refine wpAnyZ_take (i := 13) (oi := { dst := some 69, op := Go.Op.nilCheck (Go.Operand.tmp 56), type := 0, pos := "ref.go:96", after := #[{ on := 0, ground := Go.Ground.data }, { on := 0, ground := Go.Ground.phase }, { on := 1, ground := Go.Ground.phase }, { on := 2, ground := Go.Ground.phase }, { on := 3, ground := Go.Ground.phase }, { on := 4, ground := Go.Ground.phase }, { on := 5, ground := Go.Ground.phase }, { on := 6, ground := Go.Ground.phase }, { on := 7, ground := Go.Ground.phase }, { on := 8, ground := Go.Ground.phase }, { on := 9, ground := Go.Ground.phase }, { on := 10, ground := Go.Ground.phase }, { on := 11, ground := Go.Ground.phase }, { on := 12, ground := Go.Ground.phase }], guard := none }) (v := _) rfl (by kernel_rfl) (by kernel_rfl) (by kernel_rfl) (by kernel_rfl) (by kernel_rfl) (fun _ _ _ h => h) (Or.inl ⟨by rfl, by (intro w' hSw; (try dsimp only at hSw); go_simp); (try (with_reducible rfl))⟩) (by assumption) ?_
    simp only [Act.put, List.setIfInBounds_toArray, List.set_cons_zero, List.set_cons_succ]
    refine wpAnyZ_take (i := 14) (oi := { dst := some 70, op := Go.Op.fieldAddr 129 (Go.Operand.tmp 69) 3, type := 0, pos := "ref.go:96", after := #[{ on := 13, ground := Go.Ground.data }, { on := 0, ground := Go.Ground.phase }, { on := 1, ground := Go.Ground.phase }, { on := 2, ground := Go.Ground.phase }, { on := 3, ground := Go.Ground.phase }, { on := 4, ground := Go.Ground.phase }, { on := 5, ground := Go.Ground.phase }, { on := 6, ground := Go.Ground.phase }, { on := 7, ground := Go.Ground.phase }, { on := 8, ground := Go.Ground.phase }, { on := 9, ground := Go.Ground.phase }, { on := 10, ground := Go.Ground.phase }, { on := 11, ground := Go.Ground.phase }, { on := 12, ground := Go.Ground.phase }], guard := none }) (v := _) rfl (by kernel_rfl) (by kernel_rfl) (by kernel_rfl) (by kernel_rfl) (by kernel_rfl) (fun _ _ _ h => h) (Or.inl ⟨by rfl, by (intro w' hSw; (try dsimp only at hSw); go_simp); (try (with_reducible rfl))⟩) (by assumption) ?_
    simp only [Act.put, List.setIfInBounds_toArray, List.set_cons_zero, List.set_cons_succ]
    refine wpAnyZ_ready (rs := [15]) (by kernel_rfl) (by simp) ?_
    refine ZedOne.last (o := { dst := none, op := Go.Op.store 127 (Go.Operand.tmp 70) (Go.Operand.tmp 68), type := 0, pos := "ref.go:96", after := #[{ on := 14, ground := Go.Ground.data }, { on := 12, ground := Go.Ground.data }, { on := 12, ground := Go.Ground.chain }, { on := 0, ground := Go.Ground.phase }, { on := 1, ground := Go.Ground.phase }, { on := 2, ground := Go.Ground.phase }, { on := 3, ground := Go.Ground.phase }, { on := 4, ground := Go.Ground.phase }, { on := 5, ground := Go.Ground.phase }, { on := 6, ground := Go.Ground.phase }, { on := 7, ground := Go.Ground.phase }, { on := 8, ground := Go.Ground.phase }, { on := 9, ground := Go.Ground.phase }, { on := 10, ground := Go.Ground.phase }, { on := 11, ground := Go.Ground.phase }, { on := 12, ground := Go.Ground.phase }], guard := none }) rfl (fun K hK => ?_)
    have u5 := (hS.cell (a := ⟨u, 3, none⟩) lu3 (by simp)).trans t3
    have u6 := (hS.free (a := ⟨u, 3, none⟩) lu3 (by simp)).trans ft3
    go_simp
    refine hK.out _ _ ?_
    clear hK K hS
    (try simp only [Act.put, List.setIfInBounds_toArray, List.set_cons_zero, List.set_cons_succ])
    refine wpAnyZ_done (by kernel_rfl) ?_ _
    rotate_left 1
    exact ZedOne.nil
    exact ZedOne.nil
    refine ZedOne.cons (o := { dst := some 67, op := Go.Op.buildSlice 127 1 #[(0, Go.Operand.tmp 66)], type := 127, pos := "ref.go:96", after := #[{ on := 10, ground := Go.Ground.data }], guard := none }) rfl (fun K hK => ?_) ?_
    go_simp
    refine hK.out _ _ ?_ (fun hSn => ?_)
    · (try dsimp only at hS ⊢); (repeat (first | (with_reducible exact Fr.refl _ _) | (with_reducible assumption) | (with_reducible refine Fr.drew ?_) | (with_reducible refine Fr.drewN ?_ _) | (with_reducible refine Fr.alloc ?_ _) | (with_reducible refine Fr.mput ?_ _ _ _ (.inl (by simp))) | (with_reducible refine Fr.mdel ?_ _ _ (.inl (by simp))) | (with_reducible refine Fr.set ?_ _ _ (.inr (by first | omega | (dsimp only; omega)))) | (with_reducible refine Fr.set ?_ _ _ (.inl (by simp)))))
    clear hK K hS
    have hS := hSn
    clear hSn
    (try simp only [Act.put, List.setIfInBounds_toArray, List.set_cons_zero, List.set_cons_succ])
    refine wpAnyZ_ready (rs := [6]) (by kernel_rfl) (by simp) ?_
    refine ZedOne.cons (o := { dst := some 62, op := Go.Op.call { callee := Go.Callee.builtin Go.Builtin.append, args := #[Go.Operand.tmp 57, Go.Operand.tmp 61], argTypes := #[127, 127] }, type := 127, pos := "ref.go:96", after := #[{ on := 1, ground := Go.Ground.data }, { on := 5, ground := Go.Ground.data }], guard := none }) rfl (fun K hK => ?_) ?_
    refine step_append_src rfl (.tmp 57) (.tmp 61) 127 rfl w3.heap.size 90 i0 (.agg #[.int .i64 0, .int .u32 0, .int .u32 0, .int .i64 0, .int .i64 0, .int .i64 0, .int .i64 0]) 7 48 Tryz.underlying127 HI.out.1 HI.out.2.1 HI.out.2.2.1 HI.out.2.2.2 rfl (by decide) _ 0 [] (by rfl) (own_empty (by first | exact heap_new _ _ | exact (by (try simp only [heap_drewN, heap_drew, heap_alloc_if, World.size_alloc, World.size_setCell, size_mput, size_mdel]); (first | (simp; done) | (simp [zeroEntry]; done) | (simp; omega) | (simp [zeroEntry]; omega)))) (by first | (simp; done) | (simp; omega))) n3 (l3.flatMap ucells) (.slice ad3 n3 cp3) rfl (T3.out.2.2.2.2.1 _ hS) T3.out.2.2.2.1 (by unfold maxLen; omega) (by omega) (by first | (simp; done) | (simp; omega)) ?_
    intro v4 w4 hown4 hg4
    simp only [Nat.zero_add, List.nil_append] at hown4
    have HP1 := Lib.hid (And.intro hown4 (And.intro (Fr.grown (S := []) (a := w3) (by (repeat (first | (with_reducible exact Fr.refl _ _) | (with_reducible assumption) | (with_reducible refine Fr.drew ?_) | (with_reducible refine Fr.drewN ?_ _) | (with_reducible refine Fr.alloc ?_ _) | (with_reducible refine Fr.mput ?_ _ _ _ (.inl (by simp))) | (with_reducible refine Fr.mdel ?_ _ _ (.inl (by simp))) | (with_reducible refine Fr.set ?_ _ _ (.inr (by first | omega | (dsimp only; omega)))) | (with_reducible refine Fr.set ?_ _ _ (.inl (by simp)))))) hg4 (fun k hk => .inr (by simp [Value.ownBlock] at hk; omega))) (fun (B : Nat) (o : Obj) (h : _ = some o) (hne : _) => (hg4.block B (lt_of h) hne).trans h)))
    clear hown4 hg4
    refine hK.out _ _ ?_ (fun hSn => ?_)
    · exact HP1.out.2.1
    clear hK K hS
    have hS := hSn
    clear hSn
    (try simp only [Act.put, List.setIfInBounds_toArray, List.set_cons_zero, List.set_cons_succ])
    refine wpAnyZ_ready (rs := [12]) (by kernel_rfl) (by simp) ?_
    refine ZedOne.cons (o := { dst := some 68, op := Go.Op.call { callee := Go.Callee.builtin Go.Builtin.append, args := #[Go.Operand.tmp 62, Go.Operand.tmp 67], argTypes := #[127, 127] }, type := 127, pos := "ref.go:96", after := #[{ on := 6, ground := Go.Ground.data }, { on := 11, ground := Go.Ground.data }, { on := 6, ground := Go.Ground.chain }], guard := none }) rfl (fun K hK => ?_) ?_
    refine step_append_src rfl (.tmp 62) (.tmp 67) 127 rfl w3.heap.size 90 i0 (.agg #[.int .i64 0, .int .u32 0, .int .u32 0, .int .i64 0, .int .i64 0, .int .i64 0, .int .i64 0]) 7 48 Tryz.underlying127 HI.out.1 HI.out.2.1 HI.out.2.2.1 HI.out.2.2.2 rfl (by decide) v4 n3 _ rfl (own_fr (S := []) (w := w4) HP1.out.1 (by (repeat (first | (with_reducible exact Fr.refl _ _) | (with_reducible assumption) | (with_reducible refine Fr.drew ?_) | (with_reducible refine Fr.drewN ?_ _) | (with_reducible refine Fr.alloc ?_ _) | (with_reducible refine Fr.mput ?_ _ _ _ (.inl (by simp))) | (with_reducible refine Fr.mdel ?_ _ _ (.inl (by simp))) | (with_reducible refine Fr.set ?_ _ _ (.inr (by first | omega | (dsimp only; omega)))) | (with_reducible refine Fr.set ?_ _ _ (.inl (by simp)))))) (by simp)) 1 [.int .i64 f.proto, .int .u32 f.src, .int .u32 f.dst, .int .i64 f.sport, .int .i64 f.dport, .int .i64 b, .int .i64 x] _ rfl (src_one (e := 90) (by first | exact heap_new _ _ | exact HP1.out.2.2 _ _ (by first | exact heap_new _ _ | exact (by (try simp only [heap_drewN, heap_drew, heap_alloc_if, World.size_alloc, World.size_setCell, size_mput, size_mdel]); (first | (simp; done) | (simp [zeroEntry]; done) | (simp; omega) | (simp [zeroEntry]; omega)))) (by simp [Value.ownBlock])) rfl) (by intro z hz; simp at hz; rcases hz with rfl | rfl | rfl | rfl | rfl | rfl | rfl <;> rfl) (by unfold maxLen; omega) (by omega) (Nat.le_trans HP1.out.2.1.size (by simp)) ?_
    intro v5 w5 hown5 hg5
    obtain ⟨ad5, cp5, rfl, hnc5⟩ := own_form' hown5
    clear hnc5
    have HP2 := Lib.hid (And.intro hown5 (Fr.grown (S := []) (a := w3) (by (repeat (first | (with_reducible exact Fr.refl _ _) | (with_reducible assumption) | (with_reducible refine Fr.drew ?_) | (with_reducible refine Fr.drewN ?_ _) | (with_reducible refine Fr.alloc ?_ _) | (with_reducible refine Fr.mput ?_ _ _ _ (.inl (by simp))) | (with_reducible refine Fr.mdel ?_ _ _ (.inl (by simp))) | (with_reducible refine Fr.set ?_ _ _ (.inr (by first | omega | (dsimp only; omega)))) | (with_reducible refine Fr.set ?_ _ _ (.inl (by simp)))))) hg5 (fun k hk => .inr (own_base HP1.out.1 k hk))))
    clear hown5 hg5
    refine hK.out _ _ ?_ (fun hSn => ?_)
    · exact HP2.out.2
    clear hK K hS
    have hS := hSn
    clear hSn
    (try simp only [Act.put, List.setIfInBounds_toArray, List.set_cons_zero, List.set_cons_succ])
    refine wpAnyZ_take (i := 13) (oi := { dst := some 69, op := Go.Op.nilCheck (Go.Operand.tmp 56), type := 0, pos := "ref.go:96", after := #[{ on := 0, ground := Go.Ground.data }, { on := 0, ground := Go.Ground.phase }, { on := 1, ground := Go.Ground.phase }, { on := 2, ground := Go.Ground.phase }, { on := 3, ground := Go.Ground.phase }, { on := 4, ground := Go.Ground.phase }, { on := 5, ground := Go.Ground.phase }, { on := 6, ground := Go.Ground.phase }, { on := 7, ground := Go.Ground.phase }, { on := 8, ground := Go.Ground.phase }, { on := 9, ground := Go.Ground.phase }, { on := 10, ground := Go.Ground.phase }, { on := 11, ground := Go.Ground.phase }, { on := 12, ground := Go.Ground.phase }], guard := none }) (v := _) rfl (by kernel_rfl) (by kernel_rfl) (by kernel_rfl) (by kernel_rfl) (by kernel_rfl) (fun _ _ _ h => h) (Or.inl ⟨by rfl, by (intro w' hSw; (try dsimp only at hSw); go_simp); (try (with_reducible rfl))⟩) (by assumption) ?_
    simp only [Act.put, List.setIfInBounds_toArray, List.set_cons_zero, List.set_cons_succ]
    refine wpAnyZ_take (i := 14) (oi := { dst := some 70, op := Go.Op.fieldAddr 129 (Go.Operand.tmp 69) 3, type := 0, pos := "ref.go:96", after := #[{ on := 13, ground := Go.Ground.data }, { on := 0, ground := Go.Ground.phase }, { on := 1, ground := Go.Ground.phase }, { on := 2, ground := Go.Ground.phase }, { on := 3, ground := Go.Ground.phase }, { on := 4, ground := Go.Ground.phase }, { on := 5, ground := Go.Ground.phase }, { on := 6, ground := Go.Ground.phase }, { on := 7, ground := Go.Ground.phase }, { on := 8, ground := Go.Ground.phase }, { on := 9, ground := Go.Ground.phase }, { on := 10, ground := Go.Ground.phase }, { on := 11, ground := Go.Ground.phase }, { on := 12, ground := Go.Ground.phase }], guard := none }) (v := _) rfl (by kernel_rfl) (by kernel_rfl) (by kernel_rfl) (by kernel_rfl) (by kernel_rfl) (fun _ _ _ h => h) (Or.inl ⟨by rfl, by (intro w' hSw; (try dsimp only at hSw); go_simp); (try (with_reducible rfl))⟩) (by assumption) ?_
    simp only [Act.put, List.setIfInBounds_toArray, List.set_cons_zero, List.set_cons_succ]
    refine wpAnyZ_ready (rs := [15]) (by kernel_rfl) (by simp) ?_
    refine ZedOne.last (o := { dst := none, op := Go.Op.store 127 (Go.Operand.tmp 70) (Go.Operand.tmp 68), type := 0, pos := "ref.go:96", after := #[{ on := 14, ground := Go.Ground.data }, { on := 12, ground := Go.Ground.data }, { on := 12, ground := Go.Ground.chain }, { on := 0, ground := Go.Ground.phase }, { on := 1, ground := Go.Ground.phase }, { on := 2, ground := Go.Ground.phase }, { on := 3, ground := Go.Ground.phase }, { on := 4, ground := Go.Ground.phase }, { on := 5, ground := Go.Ground.phase }, { on := 6, ground := Go.Ground.phase }, { on := 7, ground := Go.Ground.phase }, { on := 8, ground := Go.Ground.phase }, { on := 9, ground := Go.Ground.phase }, { on := 10, ground := Go.Ground.phase }, { on := 11, ground := Go.Ground.phase }, { on := 12, ground := Go.Ground.phase }], guard := none }) rfl (fun K hK => ?_)
    have u5 := (hS.cell (a := ⟨u, 3, none⟩) lu3 (by simp)).trans t3
    have u6 := (hS.free (a := ⟨u, 3, none⟩) lu3 (by simp)).trans ft3
    go_simp
    refine hK.out _ _ ?_
    clear hK K hS
    (try simp only [Act.put, List.setIfInBounds_toArray, List.set_cons_zero, List.set_cons_succ])
    refine wpAnyZ_done (by kernel_rfl) ?_ _
    rotate_left 1
    exact ZedOne.nil
    exact ZedOne.nil
    exact ZedOne.nil
    refine ZedOne.cons (o := { dst := some 67, op := Go.Op.buildSlice 127 1 #[(0, Go.Operand.tmp 66)], type := 127, pos := "ref.go:96", after := #[{ on := 10, ground := Go.Ground.data }], guard := none }) rfl (fun K hK => ?_) ?_
    go_simp
    refine hK.out _ _ ?_ (fun hSn => ?_)
    · (try dsimp only at hS ⊢); (repeat (first | (with_reducible exact Fr.refl _ _) | (with_reducible assumption) | (with_reducible refine Fr.drew ?_) | (with_reducible refine Fr.drewN ?_ _) | (with_reducible refine Fr.alloc ?_ _) | (with_reducible refine Fr.mput ?_ _ _ _ (.inl (by simp))) | (with_reducible refine Fr.mdel ?_ _ _ (.inl (by simp))) | (with_reducible refine Fr.set ?_ _ _ (.inr (by first | omega | (dsimp only; omega)))) | (with_reducible refine Fr.set ?_ _ _ (.inl (by simp)))))
    clear hK K hS
    have hS := hSn
    clear hSn
    (try simp only [Act.put, List.setIfInBounds_toArray, List.set_cons_zero, List.set_cons_succ])
    refine wpAnyZ_ready (rs := [1]) (by kernel_rfl) (by simp) ?_
    refine ZedOne.cons (o := { dst := some 57, op := Go.Op.buildSlice 127 0 #[], type := 127, pos := "ref.go:96", after := #[], guard := none }) rfl (fun K hK => ?_) ?_
    go_simp
    refine hK.out _ _ ?_ (fun hSn => ?_)
    · (try dsimp only at hS ⊢); (repeat (first | (with_reducible exact Fr.refl _ _) | (with_reducible assumption) | (with_reducible refine Fr.drew ?_) | (with_reducible refine Fr.drewN ?_ _) | (with_reducible refine Fr.alloc ?_ _) | (with_reducible refine Fr.mput ?_ _ _ _ (.inl (by simp))) | (with_reducible refine Fr.mdel ?_ _ _ (.inl (by simp))) | (with_reducible refine Fr.set ?_ _ _ (.inr (by first | omega | (dsimp only; omega)))) | (with_reducible refine Fr.set ?_ _ _ (.inl (by simp)))))
    clear hK K hS
    have hS := hSn
    clear hSn
    (try simp only [Act.put, List.setIfInBounds_toArray, List.set_cons_zero, List.set_cons_succ])
    refine wpAnyZ_ready (rs := [6]) (by kernel_rfl) (by simp) ?_
    refine ZedOne.cons (o := { dst := some 62, op := Go.Op.call { callee := Go.Callee.builtin Go.Builtin.append, args := #[Go.Operand.tmp 57, Go.Operand.tmp 61], argTypes := #[127, 127] }, type := 127, pos := "ref.go:96", after := #[{ on := 1, ground := Go.Ground.data }, { on := 5, ground := Go.Ground.data }], guard := none }) rfl (fun K hK => ?_) ?_
    refine step_append_src rfl (.tmp 57) (.tmp 61) 127 rfl w3.heap.size 90 i0 (.agg #[.int .i64 0, .int .u32 0, .int .u32 0, .int .i64 0, .int .i64 0, .int .i64 0, .int .i64 0]) 7 48 Tryz.underlying127 HI.out.1 HI.out.2.1 HI.out.2.2.1 HI.out.2.2.2 rfl (by decide) _ 0 [] (by rfl) (own_empty (by first | exact heap_new _ _ | exact (by (try simp only [heap_drewN, heap_drew, heap_alloc_if, World.size_alloc, World.size_setCell, size_mput, size_mdel]); (first | (simp; done) | (simp [zeroEntry]; done) | (simp; omega) | (simp [zeroEntry]; omega)))) (by first | (simp; done) | (simp; omega))) n3 (l3.flatMap ucells) (.slice ad3 n3 cp3) rfl (T3.out.2.2.2.2.1 _ hS) T3.out.2.2.2.1 (by unfold maxLen; omega) (by omega) (by first | (simp; done) | (simp; omega)) ?_
    intro v4 w4 hown4 hg4
    simp only [Nat.zero_add, List.nil_append] at hown4
    have HP1 := Lib.hid (And.intro hown4 (And.intro (Fr.grown (S := []) (a := w3) (by (repeat (first | (with_reducible exact Fr.refl _ _) | (with_reducible assumption) | (with_reducible refine Fr.drew ?_) | (with_reducible refine Fr.drewN ?_ _) | (with_reducible refine Fr.alloc ?_ _) | (with_reducible refine Fr.mput ?_ _ _ _ (.inl (by simp))) | (with_reducible refine Fr.mdel ?_ _ _ (.inl (by simp))) | (with_reducible refine Fr.set ?_ _ _ (.inr (by first | omega | (dsimp only; omega)))) | (with_reducible refine Fr.set ?_ _ _ (.inl (by simp)))))) hg4 (fun k hk => .inr (by simp [Value.ownBlock] at hk; omega))) (fun (B : Nat) (o : Obj) (h : _ = some o) (hne : _) => (hg4.block B (lt_of h) hne).trans h)))
    clear hown4 hg4
    refine hK.out _ _ ?_ (fun hSn => ?_)
    · exact HP1.out.2.1
    clear hK K hS
    have hS := hSn
    clear hSn
    (try simp only [Act.put, List.setIfInBounds_toArray, List.set_cons_zero, List.set_cons_succ])
    refine wpAnyZ_ready (rs := [12]) (by kernel_rfl) (by simp) ?_
    refine ZedOne.cons (o := { dst := some 68, op := Go.Op.call { callee := Go.Callee.builtin Go.Builtin.append, args := #[Go.Operand.tmp 62, Go.Operand.tmp 67], argTypes := #[127, 127] }, type := 127, pos := "ref.go:96", after := #[{ on := 6, ground := Go.Ground.data }, { on := 11, ground := Go.Ground.data }, { on := 6, ground := Go.Ground.chain }], guard := none }) rfl (fun K hK => ?_) ?_
    refine step_append_src rfl (.tmp 62) (.tmp 67) 127 rfl w3.heap.size 90 i0 (.agg #[.int .i64 0, .int .u32 0, .int .u32 0, .int .i64 0, .int .i64 0, .int .i64 0, .int .i64 0]) 7 48 Tryz.underlying127 HI.out.1 HI.out.2.1 HI.out.2.2.1 HI.out.2.2.2 rfl (by decide) v4 n3 _ rfl (own_fr (S := []) (w := w4) HP1.out.1 (by (repeat (first | (with_reducible exact Fr.refl _ _) | (with_reducible assumption) | (with_reducible refine Fr.drew ?_) | (with_reducible refine Fr.drewN ?_ _) | (with_reducible refine Fr.alloc ?_ _) | (with_reducible refine Fr.mput ?_ _ _ _ (.inl (by simp))) | (with_reducible refine Fr.mdel ?_ _ _ (.inl (by simp))) | (with_reducible refine Fr.set ?_ _ _ (.inr (by first | omega | (dsimp only; omega)))) | (with_reducible refine Fr.set ?_ _ _ (.inl (by simp)))))) (by simp)) 1 [.int .i64 f.proto, .int .u32 f.src, .int .u32 f.dst, .int .i64 f.sport, .int .i64 f.dport, .int .i64 b, .int .i64 x] _ rfl (src_one (e := 90) (by first | exact heap_new _ _ | exact HP1.out.2.2 _ _ (by first | exact heap_new _ _ | exact (by (try simp only [heap_drewN, heap_drew, heap_alloc_if, World.size_alloc, World.size_setCell, size_mput, size_mdel]); (first | (simp; done) | (simp [zeroEntry]; done) | (simp; omega) | (simp [zeroEntry]; omega)))) (by simp [Value.ownBlock])) rfl) (by intro z hz; simp at hz; rcases hz with rfl | rfl | rfl | rfl | rfl | rfl | rfl <;> rfl) (by unfold maxLen; omega) (by omega) (Nat.le_trans HP1.out.2.1.size (by simp)) ?_
    intro v5 w5 hown5 hg5
    obtain ⟨ad5, cp5, rfl, hnc5⟩ := own_form' hown5
    clear hnc5
    have HP2 := Lib.hid (And.intro hown5 (Fr.grown (S := []) (a := w3) (by (repeat (first | (with_reducible exact Fr.refl _ _) | (with_reducible assumption) | (with_reducible refine Fr.drew ?_) | (with_reducible refine Fr.drewN ?_ _) | (with_reducible refine Fr.alloc ?_ _) | (with_reducible refine Fr.mput ?_ _ _ _ (.inl (by simp))) | (with_reducible refine Fr.mdel ?_ _ _ (.inl (by simp))) | (with_reducible refine Fr.set ?_ _ _ (.inr (by first | omega | (dsimp only; omega)))) | (with_reducible refine Fr.set ?_ _ _ (.inl (by simp)))))) hg5 (fun k hk => .inr (own_base HP1.out.1 k hk))))
    clear hown5 hg5
    refine hK.out _ _ ?_ (fun hSn => ?_)
    · exact HP2.out.2
    clear hK K hS
    have hS := hSn
    clear hSn
    (try simp only [Act.put, List.setIfInBounds_toArray, List.set_cons_zero, List.set_cons_succ])
    refine wpAnyZ_take (i := 13) (oi := { dst := some 69, op := Go.Op.nilCheck (Go.Operand.tmp 56), type := 0, pos := "ref.go:96", after := #[{ on := 0, ground := Go.Ground.data }, { on := 0, ground := Go.Ground.phase }, { on := 1, ground := Go.Ground.phase }, { on := 2, ground := Go.Ground.phase }, { on := 3, ground := Go.Ground.phase }, { on := 4, ground := Go.Ground.phase }, { on := 5, ground := Go.Ground.phase }, { on := 6, ground := Go.Ground.phase }, { on := 7, ground := Go.Ground.phase }, { on := 8, ground := Go.Ground.phase }, { on := 9, ground := Go.Ground.phase }, { on := 10, ground := Go.Ground.phase }, { on := 11, ground := Go.Ground.phase }, { on := 12, ground := Go.Ground.phase }], guard := none }) (v := _) rfl (by kernel_rfl) (by kernel_rfl) (by kernel_rfl) (by kernel_rfl) (by kernel_rfl) (fun _ _ _ h => h) (Or.inl ⟨by rfl, by (intro w' hSw; (try dsimp only at hSw); go_simp); (try (with_reducible rfl))⟩) (by assumption) ?_
    simp only [Act.put, List.setIfInBounds_toArray, List.set_cons_zero, List.set_cons_succ]
    refine wpAnyZ_take (i := 14) (oi := { dst := some 70, op := Go.Op.fieldAddr 129 (Go.Operand.tmp 69) 3, type := 0, pos := "ref.go:96", after := #[{ on := 13, ground := Go.Ground.data }, { on := 0, ground := Go.Ground.phase }, { on := 1, ground := Go.Ground.phase }, { on := 2, ground := Go.Ground.phase }, { on := 3, ground := Go.Ground.phase }, { on := 4, ground := Go.Ground.phase }, { on := 5, ground := Go.Ground.phase }, { on := 6, ground := Go.Ground.phase }, { on := 7, ground := Go.Ground.phase }, { on := 8, ground := Go.Ground.phase }, { on := 9, ground := Go.Ground.phase }, { on := 10, ground := Go.Ground.phase }, { on := 11, ground := Go.Ground.phase }, { on := 12, ground := Go.Ground.phase }], guard := none }) (v := _) rfl (by kernel_rfl) (by kernel_rfl) (by kernel_rfl) (by kernel_rfl) (by kernel_rfl) (fun _ _ _ h => h) (Or.inl ⟨by rfl, by (intro w' hSw; (try dsimp only at hSw); go_simp); (try (with_reducible rfl))⟩) (by assumption) ?_
    simp only [Act.put, List.setIfInBounds_toArray, List.set_cons_zero, List.set_cons_succ]
    refine wpAnyZ_ready (rs := [15]) (by kernel_rfl) (by simp) ?_
    refine ZedOne.last (o := { dst := none, op := Go.Op.store 127 (Go.Operand.tmp 70) (Go.Operand.tmp 68), type := 0, pos := "ref.go:96", after := #[{ on := 14, ground := Go.Ground.data }, { on := 12, ground := Go.Ground.data }, { on := 12, ground := Go.Ground.chain }, { on := 0, ground := Go.Ground.phase }, { on := 1, ground := Go.Ground.phase }, { on := 2, ground := Go.Ground.phase }, { on := 3, ground := Go.Ground.phase }, { on := 4, ground := Go.Ground.phase }, { on := 5, ground := Go.Ground.phase }, { on := 6, ground := Go.Ground.phase }, { on := 7, ground := Go.Ground.phase }, { on := 8, ground := Go.Ground.phase }, { on := 9, ground := Go.Ground.phase }, { on := 10, ground := Go.Ground.phase }, { on := 11, ground := Go.Ground.phase }, { on := 12, ground := Go.Ground.phase }], guard := none }) rfl (fun K hK => ?_)
    have u5 := (hS.cell (a := ⟨u, 3, none⟩) lu3 (by simp)).trans t3
    have u6 := (hS.free (a := ⟨u, 3, none⟩) lu3 (by simp)).trans ft3
    go_simp
    refine hK.out _ _ ?_
    clear hK K hS
    (try simp only [Act.put, List.setIfInBounds_toArray, List.set_cons_zero, List.set_cons_succ])
    refine wpAnyZ_done (by kernel_rfl) ?_ _
    rotate_left 1
    exact ZedOne.nil
    exact ZedOne.nil
    exact ZedOne.nil
    exact ZedOne.nil
    all_goals obtain ⟨hown5, hF5⟩ := HP2.out
    all_goals obtain ⟨⟨q0, q1, q2, q3, q4, q5, q6⟩, _⟩ := ent_cells (hF5.keep B3.out.2 (by simp))
    all_goals obtain ⟨⟨r0, r1, r2, r3, r4, r5, r6⟩, s0, s1, s2, s3, s4, s5, s6⟩ := ent_cells (hF5.keep B3.out.1 (by simp))
    all_goals have lr5 := lt_of (hF5.keep B3.out.1 (by simp))
    all_goals have lq5 := lt_of (hF5.keep B3.out.2 (by simp))
    all_goals have nq : ¬ (w1.heap.size = u) := by omega
    all_goals have nr : ¬ (w.heap.size + 1 = u) := by omega
    all_goals have nr' : ¬ (u = w.heap.size + 1) := by omega
    all_goals have nq' : ¬ (u = w1.heap.size) := by omega
    all_goals clear hown5 hF5
    all_goals go_wp2
    all_goals refine bodyPost_ret (v := .tuple #[.agg #[.int .i64 g0, .int .u32 g1, .int .u32 g2, .int .i64 g3, .int .i64 g4, .int .i64 g5, .int .i64 g6], .bool false]) (by simp [results, Tryz.results36, go_sem, lr5, r0, r1, r2, r3, r4, r5, r6, nr, nr']) rfl ⟨⟨_, rfl⟩, ?_⟩
    all_goals exact uput_done (c := w.heap.size + 1) ⟨f, b, x⟩ hul T3.out.1 T3.out.2.2.1 hl19 T3.out.2.2.2.2.2 HP2.out.1 HP2.out.2 (by omega) lr3 (by (repeat (first | (with_reducible exact Fr.refl _ _) | (with_reducible assumption) | (with_reducible refine Fr.drew ?_) | (with_reducible refine Fr.drewN ?_ _) | (with_reducible refine Fr.alloc ?_ _) | (with_reducible refine Fr.mput ?_ _ _ _ (.inl (by simp))) | (with_reducible refine Fr.mdel ?_ _ _ (.inl (by simp))) | (with_reducible refine Fr.set ?_ _ _ (.inr (by first | omega | (dsimp only; omega)))) | (with_reducible refine Fr.set ?_ _ _ (.inl (by simp))))))
  · have hF2 : Fr [] w1 w2 := Fr.trans (S := []) (a := w1) (by (repeat (first | (with_reducible exact Fr.refl _ _) | (with_reducible assumption) | (with_reducible refine Fr.drew ?_) | (with_reducible refine Fr.drewN ?_ _) | (with_reducible refine Fr.alloc ?_ _) | (with_reducible refine Fr.mput ?_ _ _ _ (.inl (by simp))) | (with_reducible refine Fr.mdel ?_ _ _ (.inl (by simp))) | (with_reducible refine Fr.set ?_ _ _ (.inr (by first | omega | (dsimp only; omega)))) | (with_reducible refine Fr.set ?_ _ _ (.inl (by simp)))))) hfr2 (by simp)
    have hU2 := H1.out.1.fr hF2 (by simp)
    obtain ⟨n, hn⟩ : ∃ n, l.length = n := ⟨_, rfl⟩
    have hn20 : n ≤ 20 := by rw [← hn]; exact hU2.len
    have hr' : r < 0 := by omega
    obtain ⟨a2, b2, c2, ht2⟩ := hU2.tab
    obtain ⟨ad, cp, rfl, _⟩ := own_src hU2.row
    rw [hn] at ht2
    have t0 := cell_at ht2 0 (v := .int .i64 20) rfl
    have t3 := cell_at ht2 3 (v := .slice ad n cp) rfl
    have t4 := cell_at ht2 4 (v := .int .i64 b2) rfl
    have f4 := free_at ht2 4
    have lu2 := lt_of ht2
    have hgo := hfr2.keep (k := w1.heap.size) (o := .cells #[.int .i64 0, .int .u32 0, .int .u32 0, .int .i64 0, .int .i64 0, .int .i64 0, .int .i64 0] 90 (0, 0)) (heap_new w1 _) (by simp)
    have H2 := Lib.hid (And.intro hF2 (And.intro hU2 (And.intro hn (And.intro hfr2 (And.intro hgo ht2)))))
    clear hF2 hU2 hn hfr2 hgo ht2
    by_cases hlt : n < 20
    · go_wp2
      go_quiet (fail)
      go_wp2
      obtain ⟨hF2, hU2, hn, hfr2, hgo, ht2⟩ := H2.out
      obtain ⟨w3, hw3⟩ : ∃ w3, w3 = (w2.setCell ⟨u, 4, none⟩ (.int .i64 (wrap64 (b2 + 1)))).drewN nq := ⟨_, rfl⟩
      rw [← hw3]
      have hfr3 : Fr [u] w2 w3 := by rw [hw3]; (repeat (first | (with_reducible exact Fr.refl _ _) | (with_reducible assumption) | (with_reducible refine Fr.drew ?_) | (with_reducible refine Fr.drewN ?_ _) | (with_reducible refine Fr.alloc ?_ _) | (with_reducible refine Fr.mput ?_ _ _ _ (.inl (by simp))) | (with_reducible refine Fr.mdel ?_ _ _ (.inl (by simp))) | (with_reducible refine Fr.set ?_ _ _ (.inr (by first | omega | (dsimp only; omega)))) | (with_reducible refine Fr.set ?_ _ _ (.inl (by simp)))))
      obtain ⟨v3, l3, hU3, hl19⟩ : ∃ v3 l3, UAt w3 u v3 l3 ∧ l3.length ≤ 19 := ⟨_, l, by rw [hw3]; exact (hU2.set45 (.inl rfl) _).fr ((Fr.refl [] _).drewN _) (by simp), by omega⟩
      have hF3 : Fr [u] w w3 := (H1.out.2.1.trans hF2 (by simp)).trans hfr3 (by simp)
      have hfl3 := hfr3.keep (hF2.keep H1.out.2.2.1 (by simp)) (by simp; omega)
      obtain ⟨g0, g1, g2, g3, g4, g5, g6, hg3⟩ : ∃ g0 g1 g2 g3 g4 g5 g6, w3.heap[w1.heap.size]? = some (.cells #[.int .i64 g0, .int .u32 g1, .int .u32 g2, .int .i64 g3, .int .i64 g4, .int .i64 g5, .int .i64 g6] 90 (0, 0)) := ⟨_, _, _, _, _, _, _, hfr3.keep hgo (by simp; omega)⟩
      have B3 := Lib.hid (And.intro (hfr3.keep (hF2.keep H1.out.2.2.2.1 (by simp)) (by simp; omega)) hg3)
      clear hF2 hU2 hn hfr2 hgo ht2 hg3 hw3 t0 t3 t4 f4 lu2
      obtain ⟨n3, hn3⟩ : ∃ n3, l3.length = n3 := ⟨_, rfl⟩
      obtain ⟨ad3, cp3, rfl, hsrc3⟩ := own_src hU3.row
      obtain ⟨a3, b3, c3, ht3⟩ := hU3.tab
      rw [hn3] at ht3 hl19 hsrc3
      have t3 := cell_at ht3 3 (v := .slice ad3 n3 cp3) rfl
      have ft3 := free_at ht3 3
      have lu3 := lt_of ht3
      obtain ⟨y0, y1, y2, y3, y4⟩ := flow_cells hfl3
      have ly := lt_of hfl3
      have hone := ucells_one l3
      have lr3 := lt_of B3.out.1
      have T3 := Lib.hid (And.intro hU3 (And.intro ht3 (And.intro hn3 (And.intro hone (And.intro hsrc3 hF3)))))
      clear hU3 ht3 hn3 hone hsrc3 hF3 hfl3
      go_wp2
      refine wp_region_zed (P := Tryz.prog) (fun wz => Fr [] w3 wz) 15 (by kernel_rfl) ?_ (fun hS => ?_)
      · exact (Fr.refl [] _).drew
      refine wpAnyZ_take (i := 0) (oi := { dst := some 56, op := Go.Op.move (Go.Operand.tmp 0), type := 39, pos := "ref.go:96", after := #[], guard := none }) (v := _) rfl (by kernel_rfl) (by kernel_rfl) (by kernel_rfl) (by kernel_rfl) (by kernel_rfl) (fun _ _ _ h => h) (Or.inl ⟨by rfl, by (intro w' hSw; (try dsimp only at hSw); go_simp); (try (with_reducible rfl))⟩) (by assumption) ?_
      simp only [Act.put, List.setIfInBounds_toArray, List.set_cons_zero, List.set_cons_succ]
      refine wpAnyZ_take (i := 2) (oi := { dst := some 58, op := Go.Op.move (Go.Operand.tmp 0), type := 39, pos := "ref.go:96", after := #[], guard := none }) (v := _) rfl (by kernel_rfl) (by kernel_rfl) (by kernel_rfl) (by kernel_rfl) (by kernel_rfl) (fun _ _ _ h => h) (Or.inl ⟨by rfl, by (intro w' hSw; (try dsimp only at hSw); go_simp); (try (with_reducible rfl))⟩) (by assumption) ?_
      simp only [Act.put, List.setIfInBounds_toArray, List.set_cons_zero, List.set_cons_succ]
      refine wpAnyZ_take (i := 3) (oi := { dst := some 59, op := Go.Op.nilCheck (Go.Operand.tmp 58), type := 0, pos := "ref.go:96", after := #[{ on := 2, ground := Go.Ground.data }], guard := none }) (v := _) rfl (by kernel_rfl) (by kernel_rfl) (by kernel_rfl) (by kernel_rfl) (by kernel_rfl) (fun _ _ _ h => h) (Or.inl ⟨by rfl, by (intro w' hSw; (try dsimp only at hSw); go_simp); (try (with_reducible rfl))⟩) (by assumption) ?_
      simp only [Act.put, List.setIfInBounds_toArray, List.set_cons_zero, List.set_cons_succ]
      refine wpAnyZ_take (i := 4) (oi := { dst := some 60, op := Go.Op.fieldAddr 129 (Go.Operand.tmp 59) 3, type := 0, pos := "ref.go:96", after := #[{ on := 3, ground := Go.Ground.data }], guard := none }) (v := _) rfl (by kernel_rfl) (by kernel_rfl) (by kernel_rfl) (by kernel_rfl) (by kernel_rfl) (fun _ _ _ h => h) (Or.inl ⟨by rfl, by (intro w' hSw; (try dsimp only at hSw); go_simp); (try (with_reducible rfl))⟩) (by assumption) ?_
      simp only [Act.put, List.setIfInBounds_toArray, List.set_cons_zero, List.set_cons_succ]
      refine wpAnyZ_take (i := 5) (oi := { dst := some 61, op := Go.Op.load 127 (Go.Operand.tmp 60), type := 127, pos := "ref.go:96", after := #[{ on := 4, ground := Go.Ground.data }], guard := none }) (v := _) rfl (by kernel_rfl) (by kernel_rfl) (by kernel_rfl) (by kernel_rfl) (by kernel_rfl) (fun _ _ _ h => h) (Or.inl ⟨by rfl, by (intro w' hSw; have k0 := (hSw.cell (a := ⟨w.heap.size, 0, none⟩) ly (by simp)).trans y0; have k1 := (hSw.cell (a := ⟨w.heap.size, 1, none⟩) ly (by simp)).trans y1; have k2 := (hSw.cell (a := ⟨w.heap.size, 2, none⟩) ly (by simp)).trans y2; have k3 := (hSw.cell (a := ⟨w.heap.size, 3, none⟩) ly (by simp)).trans y3; have k4 := (hSw.cell (a := ⟨w.heap.size, 4, none⟩) ly (by simp)).trans y4; have k5 := (hSw.cell (a := ⟨u, 3, none⟩) lu3 (by simp)).trans t3; (try dsimp only at hSw); go_simp); (try (with_reducible rfl))⟩) (by assumption) ?_
      simp only [Act.put, List.setIfInBounds_toArray, List.set_cons_zero, List.set_cons_succ]
      refine wpAnyZ_take (i := 7) (oi := { dst := some 63, op := Go.Op.load 31 (Go.Operand.tmp 5), type := 31, pos := "ref.go:96", after := #[], guard := none }) (v := _) rfl (by kernel_rfl) (by kernel_rfl) (by kernel_rfl) (by kernel_rfl) (by kernel_rfl) (fun _ _ _ h => h) (Or.inl ⟨by rfl, by (intro w' hSw; have k0 := (hSw.cell (a := ⟨w.heap.size, 0, none⟩) ly (by simp)).trans y0; have k1 := (hSw.cell (a := ⟨w.heap.size, 1, none⟩) ly (by simp)).trans y1; have k2 := (hSw.cell (a := ⟨w.heap.size, 2, none⟩) ly (by simp)).trans y2; have k3 := (hSw.cell (a := ⟨w.heap.size, 3, none⟩) ly (by simp)).trans y3; have k4 := (hSw.cell (a := ⟨w.heap.size, 4, none⟩) ly (by simp)).trans y4; have k5 := (hSw.cell (a := ⟨u, 3, none⟩) lu3 (by simp)).trans t3; (try dsimp only at hSw); go_simp); (try (with_reducible rfl))⟩) (by assumption) ?_
      simp only [Act.put, List.setIfInBounds_toArray, List.set_cons_zero, List.set_cons_succ]
      refine wpAnyZ_take (i := 8) (oi := { dst := some 64, op := Go.Op.move (Go.Operand.tmp 2), type := 3, pos := "ref.go:96", after := #[], guard := none }) (v := _) rfl (by kernel_rfl) (by kernel_rfl) (by kernel_rfl) (by kernel_rfl) (by kernel_rfl) (fun _ _ _ h => h) (Or.inl ⟨by rfl, by (intro w' hSw; (try dsimp only at hSw); go_simp); (try (with_reducible rfl))⟩) (by assumption) ?_
      simp only [Act.put, List.setIfInBounds_toArray, List.set_cons_zero, List.set_cons_succ]
      refine wpAnyZ_take (i := 9) (oi := { dst := some 65, op := Go.Op.move (Go.Operand.tmp 3), type := 3, pos := "ref.go:96", after := #[], guard := none }) (v := _) rfl (by kernel_rfl) (by kernel_rfl) (by kernel_rfl) (by kernel_rfl) (by kernel_rfl) (fun _ _ _ h => h) (Or.inl ⟨by rfl, by (intro w' hSw; (try dsimp only at hSw); go_simp); (try (with_reducible rfl))⟩) (by assumption) ?_
      simp only [Act.put, List.setIfInBounds_toArray, List.set_cons_zero, List.set_cons_succ]
      refine wpAnyZ_take (i := 10) (oi := { dst := some 66, op := Go.Op.build 90 #[(0, Go.Operand.tmp 63), (1, Go.Operand.tmp 64), (2, Go.Operand.tmp 65)], type := 90, pos := "ref.go:96", after := #[{ on := 7, ground := Go.Ground.data }, { on := 8, ground := Go.Ground.data }, { on := 9, ground := Go.Ground.data }], guard := none }) (v := _) rfl (by kernel_rfl) (by kernel_rfl) (by kernel_rfl) (by kernel_rfl) (by kernel_rfl) (fun _ _ _ h => h) (Or.inl ⟨by rfl, by (intro w' hSw; (try dsimp only at hSw); go_simp); (try (with_reducible rfl))⟩) (by assumption) ?_
      simp only [Act.put, List.setIfInBounds_toArray, List.set_cons_zero, List.set_cons_succ]
      refine wpAnyZ_ready (rs := [1, 11]) (by kernel_rfl) (by simp) ?_
      refine ZedOne.cons (o := { dst := some 57, op := Go.Op.buildSlice 127 0 #[], type := 127, pos := "ref.go:96", after := #[], guard := none }) rfl (fun K hK => ?_) ?_
      go_simp
      refine hK.out _ _ ?_ (fun hSn => ?_)
      · (try dsimp only at hS ⊢); (repeat (first | (with_reducible exact Fr.refl _ _) | (with_reducible assumption) | (with_reducible refine Fr.drew ?_) | (with_reducible refine Fr.drewN ?_ _) | (with_reducible refine Fr.alloc ?_ _) | (with_reducible refine Fr.mput ?_ _ _ _ (.inl (by simp))) | (with_reducible refine Fr.mdel ?_ _ _ (.inl (by simp))) | (with_reducible refine Fr.set ?_ _ _ (.inr (by first | omega | (dsimp only; omega)))) | (with_reducible refine Fr.set ?_ _ _ (.inl (by simp)))))
      clear hK K hS
      have hS := hSn
      clear hSn
      (try simp only [Act.put, List.setIfInBounds_toArray, List.set_cons_zero, List.set_cons_succ])
      refine wpAnyZ_ready (rs := [6, 11]) (by kernel_rfl) (by simp) ?_
      refine ZedOne.cons (o := { dst := some 62, op := Go.Op.call { callee := Go.Callee.builtin Go.Builtin.append, args := #[Go.Operand.tmp 57, Go.Operand.tmp 61], argTypes := #[127, 127] }, type := 127, pos := "ref.go:96", after := #[{ on := 1, ground := Go.Ground.data }, { on := 5, ground := Go.Ground.data }], guard := none }) rfl (fun K hK => ?_) ?_
      refine step_append_src rfl (.tmp 57) (.tmp 61) 127 rfl w3.heap.size 90 i0 (.agg #[.int .i64 0, .int .u32 0, .int .u32 0, .int .i64 0, .int .i64 0, .int .i64 0, .int .i64 0]) 7 48 Tryz.underlying127 HI.out.1 HI.out.2.1 HI.out.2.2.1 HI.out.2.2.2 rfl (by decide) _ 0 [] (by rfl) (own_empty (by first | exact heap_new _ _ | exact (by (try simp only [heap_drewN, heap_drew, heap_alloc_if, World.size_alloc, World.size_setCell, size_mput, size_mdel]); (first | (simp; done) | (simp [zeroEntry]; done) | (simp; omega) | (simp [zeroEntry]; omega)))) (by first | (simp; done) | (simp; omega))) n3 (l3.flatMap ucells) (.slice ad3 n3 cp3) rfl (T3.out.2.2.2.2.1 _ hS) T3.out.2.2.2.1 (by unfold maxLen; omega) (by omega) (by first | (simp; done) | (simp; omega)) ?_
      intro v4 w4 hown4 hg4
      simp only [Nat.zero_add, List.nil_append] at hown4
      have HP1 := Lib.hid (And.intro hown4 (And.intro (Fr.grown (S := []) (a := w3) (by (repeat (first | (with_reducible exact Fr.refl _ _) | (with_reducible assumption) | (with_reducible refine Fr.drew ?_) | (with_reducible refine Fr.drewN ?_ _) | (with_reducible refine Fr.alloc ?_ _) | (with_reducible refine Fr.mput ?_ _ _ _ (.inl (by simp))) | (with_reducible refine Fr.mdel ?_ _ _ (.inl (by simp))) | (with_reducible refine Fr.set ?_ _ _ (.inr (by first | omega | (dsimp only; omega)))) | (with_reducible refine Fr.set ?_ _ _ (.inl (by simp)))))) hg4 (fun k hk => .inr (by simp [Value.ownBlock] at hk; omega))) (fun (B : Nat) (o : Obj) (h : _ = some o) (hne : _) => (hg4.block B (lt_of h) hne).trans h)))
      clear hown4 hg4
      refine hK.out _ _ ?_ (fun hSn => ?_)
      · exact HP1.out.2.1
      clear hK K hS
      have hS := hSn
      clear hSn
      (try simp only [Act.put, List.setIfInBounds_toArray, List.set_cons_zero, List.set_cons_succ])
      refine wpAnyZ_ready (rs := [11]) (by kernel_rfl) (by simp) ?_
      refine ZedOne.cons (o := { dst := some 67, op := Go.Op.buildSlice 127 1 #[(0, Go.Operand.tmp 66)], type := 127, pos := "ref.go:96", after := #[{ on := 10, ground := Go.Ground.data }], guard := none }) rfl (fun K hK => ?_) ?_
      go_simp
      refine hK.out _ _ ?_ (fun hSn => ?_)
      · (try dsimp only at hS ⊢); (repeat (first | (with_reducible exact Fr.refl _ _) | (with_reducible assumption) | (with_reducible refine Fr.drew ?_) | (with_reducible refine Fr.drewN ?_ _) | (with_reducible refine Fr.alloc ?_ _) | (with_reducible refine Fr.mput ?_ _ _ _ (.inl (by simp))) | (with_reducible refine Fr.mdel ?_ _ _ (.inl (by simp))) | (with_reducible refine Fr.set ?_ _ _ (.inr (by first | omega | (dsimp only; omega)))) | (with_reducible refine Fr.set ?_ _ _ (.inl (by simp)))))
      clear hK K hS
      have hS := hSn
      clear hSn
      (try simp only [Act.put, List.setIfInBounds_toArray, List.set_cons_zero, List.set_cons_succ])
      refine wpAnyZ_ready (rs := [12]) (by kernel_rfl) (by simp) ?_
      refine ZedOne.cons (o := { dst := some 68, op := Go.Op.call { callee := Go.Callee.builtin Go.Builtin.append, args := #[Go.Operand.tmp 62, Go.Operand.tmp 67], argTypes := #[127, 127] }, type := 127, pos := "ref.go:96", after := #[{ on := 6, ground := Go.Ground.data }, { on := 11, ground := Go.Ground.data }, { on := 6, ground := Go.Ground.chain }], guard := none }) rfl (fun K hK => ?_) ?_
      refine step_append_src rfl (.tmp 62) (.tmp 67) 127 rfl w3.heap.size 90 i0 (.agg #[.int .i64 0, .int .u32 0, .int .u32 0, .int .i64 0, .int .i64 0, .int .i64 0, .int .i64 0]) 7 48 Tryz.underlying127 HI.out.1 HI.out.2.1 HI.out.2.2.1 HI.out.2.2.2 rfl (by decide) v4 n3 _ rfl (own_fr (S := []) (w := w4) HP1.out.1 (by (repeat (first | (with_reducible exact Fr.refl _ _) | (with_reducible assumption) | (with_reducible refine Fr.drew ?_) | (with_reducible refine Fr.drewN ?_ _) | (with_reducible refine Fr.alloc ?_ _) | (with_reducible refine Fr.mput ?_ _ _ _ (.inl (by simp))) | (with_reducible refine Fr.mdel ?_ _ _ (.inl (by simp))) | (with_reducible refine Fr.set ?_ _ _ (.inr (by first | omega | (dsimp only; omega)))) | (with_reducible refine Fr.set ?_ _ _ (.inl (by simp)))))) (by simp)) 1 [.int .i64 f.proto, .int .u32 f.src, .int .u32 f.dst, .int .i64 f.sport, .int .i64 f.dport, .int .i64 b, .int .i64 x] _ rfl (src_one (e := 90) (by first | exact heap_new _ _ | exact HP1.out.2.2 _ _ (by first | exact heap_new _ _ | exact (by (try simp only [heap_drewN, heap_drew, heap_alloc_if, World.size_alloc, World.size_setCell, size_mput, size_mdel]); (first | (simp; done) | (simp [zeroEntry]; done) | (simp; omega) | (simp [zeroEntry]; omega)))) (by simp [Value.ownBlock])) rfl) (by intro z hz; simp at hz; rcases hz with rfl | rfl | rfl | rfl | rfl | rfl | rfl <;> rfl) (by unfold maxLen; omega) (by omega) (Nat.le_trans HP1.out.2.1.size (by simp)) ?_
      intro v5 w5 hown5 hg5
      obtain ⟨ad5, cp5, rfl, hnc5⟩ := own_form' hown5
      clear hnc5
      have HP2 := Lib.hid (And.intro hown5 (Fr.grown (S := []) (a := w3) (by (repeat (first | (with_reducible exact Fr.refl _ _) | (with_reducible assumption) | (with_reducible refine Fr.drew ?_) | (with_reducible refine Fr.drewN ?_ _) | (with_reducible refine Fr.alloc ?_ _) | (with_reducible refine Fr.mput ?_ _ _ _ (.inl (by simp))) | (with_reducible refine Fr.mdel ?_ _ _ (.inl (by simp))) | (with_reducible refine Fr.set ?_ _ _ (.inr (by first | omega | (dsimp only; omega)))) | (with_reducible refine Fr.set ?_ _ _ (.inl (by simp)))))) hg5 (fun k hk => .inr (own_base HP1.out.1 k hk))))
      clear hown5 hg5
      refine hK.out _ _ ?_ (fun hSn => ?_)
      · exact HP2.out.2
      clear hK K hS
      have hS := hSn
      clear hSn
      (try simp only [Act.put, List.setIfInBounds_toArray, List.set_cons_zero, List.set_cons_succ])
      refine wpAnyZ_take (i := 13) (oi := { dst := some 69, op := Go.Op.nilCheck (Go.Operand.tmp 56), type := 0, pos := "ref.go:96", after := #[{ on := 0, ground := Go.Ground.data }, { on := 0, ground := Go.Ground.phase }, { on := 1, ground := Go.Ground.phase }, { on := 2, ground := Go.Ground.phase }, { on := 3, ground := Go.Ground.phase }, { on := 4, ground := Go.Ground.phase }, { on := 5, ground := Go.Ground.phase }, { on := 6, ground := Go.Ground.phase }, { on := 7, ground := Go.Ground.phase }, { on := 8, ground := Go.Ground.phase }, { on := 9, ground := Go.Ground.phase }, { on := 10, ground := Go.Ground.phase }, { on := 11, ground := Go.Ground.phase }, { on := 12, ground := Go.Ground.phase }], guard := none }) (v := _) rfl (by kernel_rfl) (by kernel_rfl) (by kernel_rfl) (by kernel_rfl) (by kernel_rfl) (fun _ _ _ h => h) (Or.inl ⟨by rfl, by (intro w' hSw; (try dsimp only at hSw); go_simp); (try (with_reducible rfl))⟩) (by assumption) ?_
      simp only [Act.put, List.setIfInBounds_toArray, List.set_cons_zero, List.set_cons_succ]
      refine wpAnyZ_take (i := 14) (oi := { dst := some 70, op := Go.Op.fieldAddr 129 (Go.Operand.tmp 69) 3, type := 0, pos := "ref.go:96", after := #[{ on := 13, ground := Go.Ground.data }, { on := 0, ground := Go.Ground.phase }, { on := 1, ground := Go.Ground.phase }, { on := 2, ground := Go.Ground.phase }, { on := 3, ground := Go.Ground.phase }, { on := 4, ground := Go.Ground.phase }, { on := 5, ground := Go.Ground.phase }, { on := 6, ground := Go.Ground.phase }, { on := 7, ground := Go.Ground.phase }, { on := 8, ground := Go.Ground.phase }, { on := 9, ground := Go.Ground.phase }, { on := 10, ground := Go.Ground.phase }, { on := 11, ground := Go.Ground.phase }, { on := 12, ground := Go.Ground.phase }], guard := none }) (v := _) rfl (by kernel_rfl) (by kernel_rfl) (by kernel_rfl) (by kernel_rfl) (by kernel_rfl) (fun _ _ _ h => h) (Or.inl ⟨by rfl, by (intro w' hSw; (try dsimp only at hSw); go_simp); (try (with_reducible rfl))⟩) (by assumption) ?_
      simp only [Act.put, List.setIfInBounds_toArray, List.set_cons_zero, List.set_cons_succ]
      refine wpAnyZ_ready (rs := [15]) (by kernel_rfl) (by simp) ?_
      refine ZedOne.last (o := { dst := none, op := Go.Op.store 127 (Go.Operand.tmp 70) (Go.Operand.tmp 68), type := 0, pos := "ref.go:96", after := #[{ on := 14, ground := Go.Ground.data }, { on := 12, ground := Go.Ground.data }, { on := 12, ground := Go.Ground.chain }, { on := 0, ground := Go.Ground.phase }, { on := 1, ground := Go.Ground.phase }, { on := 2, ground := Go.Ground.phase }, { on := 3, ground := Go.Ground.phase }, { on := 4, ground := Go.Ground.phase }, { on := 5, ground := Go.Ground.phase }, { on := 6, ground := Go.Ground.phase }, { on := 7, ground := Go.Ground.phase }, { on := 8, ground := Go.Ground.phase }, { on := 9, ground := Go.Ground.phase }, { on := 10, ground := Go.Ground.phase }, { on := 11, ground := Go.Ground.phase }, { on := 12, ground := Go.Ground.phase }], guard := none }) rfl (fun K hK => ?_)
      have u5 := (hS.cell (a := ⟨u, 3, none⟩) lu3 (by simp)).trans t3
      have u6 := (hS.free (a := ⟨u, 3, none⟩) lu3 (by simp)).trans ft3
      go_simp
      refine hK.out _ _ ?_
      clear hK K hS
      (try simp only [Act.put, List.setIfInBounds_toArray, List.set_cons_zero, List.set_cons_succ])
      refine wpAnyZ_done (by kernel_rfl) ?_ _
      rotate_left 1
      exact ZedOne.nil
      exact ZedOne.nil
      refine ZedOne.cons (o := { dst := some 67, op := Go.Op.buildSlice 127 1 #[(0, Go.Operand.tmp 66)], type := 127, pos := "ref.go:96", after := #[{ on := 10, ground := Go.Ground.data }], guard := none }) rfl (fun K hK => ?_) ?_
      go_simp
      refine hK.out _ _ ?_ (fun hSn => ?_)
      · (try dsimp only at hS ⊢); (repeat (first | (with_reducible exact Fr.refl _ _) | (with_reducible assumption) | (with_reducible refine Fr.drew ?_) | (with_reducible refine Fr.drewN ?_ _) | (with_reducible refine Fr.alloc ?_ _) | (with_reducible refine Fr.mput ?_ _ _ _ (.inl (by simp))) | (with_reducible refine Fr.mdel ?_ _ _ (.inl (by simp))) | (with_reducible refine Fr.set ?_ _ _ (.inr (by first | omega | (dsimp only; omega)))) | (with_reducible refine Fr.set ?_ _ _ (.inl (by simp)))))
      clear hK K hS
      have hS := hSn
      clear hSn
      (try simp only [Act.put, List.setIfInBounds_toArray, List.set_cons_zero, List.set_cons_succ])
      refine wpAnyZ_ready (rs := [6]) (by kernel_rfl) (by simp) ?_
      refine ZedOne.cons (o := { dst := some 62, op := Go.Op.call { callee := Go.Callee.builtin Go.Builtin.append, args := #[Go.Operand.tmp 57, Go.Operand.tmp 61], argTypes := #[127, 127] }, type := 127, pos := "ref.go:96", after := #[{ on := 1, ground := Go.Ground.data }, { on := 5, ground := Go.Ground.data }], guard := none }) rfl (fun K hK => ?_) ?_
      refine step_append_src rfl (.tmp 57) (.tmp 61) 127 rfl w3.heap.size 90 i0 (.agg #[.int .i64 0, .int .u32 0, .int .u32 0, .int .i64 0, .int .i64 0, .int .i64 0, .int .i64 0]) 7 48 Tryz.underlying127 HI.out.1 HI.out.2.1 HI.out.2.2.1 HI.out.2.2.2 rfl (by decide) _ 0 [] (by rfl) (own_empty (by first | exact heap_new _ _ | exact (by (try simp only [heap_drewN, heap_drew, heap_alloc_if, World.size_alloc, World.size_setCell, size_mput, size_mdel]); (first | (simp; done) | (simp [zeroEntry]; done) | (simp; omega) | (simp [zeroEntry]; omega)))) (by first | (simp; done) | (simp; omega))) n3 (l3.flatMap ucells) (.slice ad3 n3 cp3) rfl (T3.out.2.2.2.2.1 _ hS) T3.out.2.2.2.1 (by unfold maxLen; omega) (by omega) (by first | (simp; done) | (simp; omega)) ?_
      intro v4 w4 hown4 hg4
      simp only [Nat.zero_add, List.nil_append] at hown4
      have HP1 := Lib.hid (And.intro hown4 (And.intro (Fr.grown (S := []) (a := w3) (by (repeat (first | (with_reducible exact Fr.refl _ _) | (with_reducible assumption) | (with_reducible refine Fr.drew ?_) | (with_reducible refine Fr.drewN ?_ _) | (with_reducible refine Fr.alloc ?_ _) | (with_reducible refine Fr.mput ?_ _ _ _ (.inl (by simp))) | (with_reducible refine Fr.mdel ?_ _ _ (.inl (by simp))) | (with_reducible refine Fr.set ?_ _ _ (.inr (by first | omega | (dsimp only; omega)))) | (with_reducible refine Fr.set ?_ _ _ (.inl (by simp)))))) hg4 (fun k hk => .inr (by simp [Value.ownBlock] at hk; omega))) (fun (B : Nat) (o : Obj) (h : _ = some o) (hne : _) => (hg4.block B (lt_of h) hne).trans h)))
      clear hown4 hg4
      refine hK.out _ _ ?_ (fun hSn => ?_)
      · exact HP1.out.2.1
      clear hK K hS
      have hS := hSn
      clear hSn
      (try simp only [Act.put, List.setIfInBounds_toArray, List.set_cons_zero, List.set_cons_succ])
      refine wpAnyZ_ready (rs := [12]) (by kernel_rfl) (by simp) ?_
      refine ZedOne.cons (o := { dst := some 68, op := Go.Op.call { callee := Go.Callee.builtin Go.Builtin.append, args := #[Go.Operand.tmp 62, Go.Operand.tmp 67], argTypes := #[127, 127] }, type := 127, pos := "ref.go:96", after := #[{ on := 6, ground := Go.Ground.data }, { on := 11, ground := Go.Ground.data }, { on := 6, ground := Go.Ground.chain }], guard := none }) rfl (fun K hK => ?_) ?_
      refine step_append_src rfl (.tmp 62) (.tmp 67) 127 rfl w3.heap.size 90 i0 (.agg #[.int .i64 0, .int .u32 0, .int .u32 0, .int .i64 0, .int .i64 0, .int .i64 0, .int .i64 0]) 7 48 Tryz.underlying127 HI.out.1 HI.out.2.1 HI.out.2.2.1 HI.out.2.2.2 rfl (by decide) v4 n3 _ rfl (own_fr (S := []) (w := w4) HP1.out.1 (by (repeat (first | (with_reducible exact Fr.refl _ _) | (with_reducible assumption) | (with_reducible refine Fr.drew ?_) | (with_reducible refine Fr.drewN ?_ _) | (with_reducible refine Fr.alloc ?_ _) | (with_reducible refine Fr.mput ?_ _ _ _ (.inl (by simp))) | (with_reducible refine Fr.mdel ?_ _ _ (.inl (by simp))) | (with_reducible refine Fr.set ?_ _ _ (.inr (by first | omega | (dsimp only; omega)))) | (with_reducible refine Fr.set ?_ _ _ (.inl (by simp)))))) (by simp)) 1 [.int .i64 f.proto, .int .u32 f.src, .int .u32 f.dst, .int .i64 f.sport, .int .i64 f.dport, .int .i64 b, .int .i64 x] _ rfl (src_one (e := 90) (by first | exact heap_new _ _ | exact HP1.out.2.2 _ _ (by first | exact heap_new _ _ | exact (by (try simp only [heap_drewN, heap_drew, heap_alloc_if, World.size_alloc, World.size_setCell, size_mput, size_mdel]); (first | (simp; done) | (simp [zeroEntry]; done) | (simp; omega) | (simp [zeroEntry]; omega)))) (by simp [Value.ownBlock])) rfl) (by intro z hz; simp at hz; rcases hz with rfl | rfl | rfl | rfl | rfl | rfl | rfl <;> rfl) (by unfold maxLen; omega) (by omega) (Nat.le_trans HP1.out.2.1.size (by simp)) ?_
      intro v5 w5 hown5 hg5
      obtain ⟨ad5, cp5, rfl, hnc5⟩ := own_form' hown5
      clear hnc5
      have HP2 := Lib.hid (And.intro hown5 (Fr.grown (S := []) (a := w3) (by (repeat (first | (with_reducible exact Fr.refl _ _) | (with_reducible assumption) | (with_reducible refine Fr.drew ?_) | (with_reducible refine Fr.drewN ?_ _) | (with_reducible refine Fr.alloc ?_ _) | (with_reducible refine Fr.mput ?_ _ _ _ (.inl (by simp))) | (with_reducible refine Fr.mdel ?_ _ _ (.inl (by simp))) | (with_reducible refine Fr.set ?_ _ _ (.inr (by first | omega | (dsimp only; omega)))) | (with_reducible refine Fr.set ?_ _ _ (.inl (by simp)))))) hg5 (fun k hk => .inr (own_base HP1.out.1 k hk))))
      clear hown5 hg5
      refine hK.out _ _ ?_ (fun hSn => ?_)
      · exact HP2.out.2
      clear hK K hS
      have hS := hSn
      clear hSn
      (try simp only [Act.put, List.setIfInBounds_toArray, List.set_cons_zero, List.set_cons_succ])
      refine wpAnyZ_take (i := 13) (oi := { dst := some 69, op := Go.Op.nilCheck (Go.Operand.tmp 56), type := 0, pos := "ref.go:96", after := #[{ on := 0, ground := Go.Ground.data }, { on := 0, ground := Go.Ground.phase }, { on := 1, ground := Go.Ground.phase }, { on := 2, ground := Go.Ground.phase }, { on := 3, ground := Go.Ground.phase }, { on := 4, ground := Go.Ground.phase }, { on := 5, ground := Go.Ground.phase }, { on := 6, ground := Go.Ground.phase }, { on := 7, ground := Go.Ground.phase }, { on := 8, ground := Go.Ground.phase }, { on := 9, ground := Go.Ground.phase }, { on := 10, ground := Go.Ground.phase }, { on := 11, ground := Go.Ground.phase }, { on := 12, ground := Go.Ground.phase }], guard := none }) (v := _) rfl (by kernel_rfl) (by kernel_rfl) (by kernel_rfl) (by kernel_rfl) (by kernel_rfl) (fun _ _ _ h => h) (Or.inl ⟨by rfl, by (intro w' hSw; (try dsimp only at hSw); go_simp); (try (with_reducible rfl))⟩) (by assumption) ?_
      simp only [Act.put, List.setIfInBounds_toArray, List.set_cons_zero, List.set_cons_succ]
      refine wpAnyZ_take (i := 14) (oi := { dst := some 70, op := Go.Op.fieldAddr 129 (Go.Operand.tmp 69) 3, type := 0, pos := "ref.go:96", after := #[{ on := 13, ground := Go.Ground.data }, { on := 0, ground := Go.Ground.phase }, { on := 1, ground := Go.Ground.phase }, { on := 2, ground := Go.Ground.phase }, { on := 3, ground := Go.Ground.phase }, { on := 4, ground := Go.Ground.phase }, { on := 5, ground := Go.Ground.phase }, { on := 6, ground := Go.Ground.phase }, { on := 7, ground := Go.Ground.phase }, { on := 8, ground := Go.Ground.phase }, { on := 9, ground := Go.Ground.phase }, { on := 10, ground := Go.Ground.phase }, { on := 11, ground := Go.Ground.phase }, { on := 12, ground := Go.Ground.phase }], guard := none }) (v := _) rfl (by kernel_rfl) (by kernel_rfl) (by kernel_rfl) (by kernel_rfl) (by kernel_rfl) (fun _ _ _ h => h) (Or.inl ⟨by rfl, by (intro w' hSw; (try dsimp only at hSw); go_simp); (try (with_reducible rfl))⟩) (by assumption) ?_
      simp only [Act.put, List.setIfInBounds_toArray, List.set_cons_zero, List.set_cons_succ]
      refine wpAnyZ_ready (rs := [15]) (by kernel_rfl) (by simp) ?_
      refine ZedOne.last (o := { dst := none, op := Go.Op.store 127 (Go.Operand.tmp 70) (Go.Operand.tmp 68), type := 0, pos := "ref.go:96", after := #[{ on := 14, ground := Go.Ground.data }, { on := 12, ground := Go.Ground.data }, { on := 12, ground := Go.Ground.chain }, { on := 0, ground := Go.Ground.phase }, { on := 1, ground := Go.Ground.phase }, { on := 2, ground := Go.Ground.phase }, { on := 3, ground := Go.Ground.phase }, { on := 4, ground := Go.Ground.phase }, { on := 5, ground := Go.Ground.phase }, { on := 6, ground := Go.Ground.phase }, { on := 7, ground := Go.Ground.phase }, { on := 8, ground := Go.Ground.phase }, { on := 9, ground := Go.Ground.phase }, { on := 10, ground := Go.Ground.phase }, { on := 11, ground := Go.Ground.phase }, { on := 12, ground := Go.Ground.phase }], guard := none }) rfl (fun K hK => ?_)
      have u5 := (hS.cell (a := ⟨u, 3, none⟩) lu3 (by simp)).trans t3
      have u6 := (hS.free (a := ⟨u, 3, none⟩) lu3 (by simp)).trans ft3
      go_simp
      refine hK.out _ _ ?_
      clear hK K hS
      (try simp only [Act.put, List.setIfInBounds_toArray, List.set_cons_zero, List.set_cons_succ])
      refine wpAnyZ_done (by kernel_rfl) ?_ _
      rotate_left 1
      exact ZedOne.nil
      exact ZedOne.nil
      exact ZedOne.nil
      refine ZedOne.cons (o := { dst := some 67, op := Go.Op.buildSlice 127 1 #[(0, Go.Operand.tmp 66)], type := 127, pos := "ref.go:96", after := #[{ on := 10, ground := Go.Ground.data }], guard := none }) rfl (fun K hK => ?_) ?_
      go_simp
      refine hK.out _ _ ?_ (fun hSn => ?_)
      · (try dsimp only at hS ⊢); (repeat (first | (with_reducible exact Fr.refl _ _) | (with_reducible assumption) | (with_reducible refine Fr.drew ?_) | (with_reducible refine Fr.drewN ?_ _) | (with_reducible refine Fr.alloc ?_ _) | (with_reducible refine Fr.mput ?_ _ _ _ (.inl (by simp))) | (with_reducible refine Fr.mdel ?_ _ _ (.inl (by simp))) | (with_reducible refine Fr.set ?_ _ _ (.inr (by first | omega | (dsimp only; omega)))) | (with_reducible refine Fr.set ?_ _ _ (.inl (by simp)))))
      clear hK K hS
      have hS := hSn
      clear hSn
      (try simp only [Act.put, List.setIfInBounds_toArray, List.set_cons_zero, List.set_cons_succ])
      refine wpAnyZ_ready (rs := [1]) (by kernel_rfl) (by simp) ?_
      refine ZedOne.cons (o := { dst := some 57, op := Go.Op.buildSlice 127 0 #[], type := 127, pos := "ref.go:96", after := #[], guard := none }) rfl (fun K hK => ?_) ?_
      go_simp
      refine hK.out _ _ ?_ (fun hSn => ?_)
      · (try dsimp only at hS ⊢); (repeat (first | (with_reducible exact Fr.refl _ _) | (with_reducible assumption) | (with_reducible refine Fr.drew ?_) | (with_reducible refine Fr.drewN ?_ _) | (with_reducible refine Fr.alloc ?_ _) | (with_reducible refine Fr.mput ?_ _ _ _ (.inl (by simp))) | (with_reducible refine Fr.mdel ?_ _ _ (.inl (by simp))) | (with_reducible refine Fr.set ?_ _ _ (.inr (by first | omega | (dsimp only; omega)))) | (with_reducible refine Fr.set ?_ _ _ (.inl (by simp)))))
      clear hK K hS
      have hS := hSn
      clear hSn
      (try simp only [Act.put, List.setIfInBounds_toArray, List.set_cons_zero, List.set_cons_succ])
      refine wpAnyZ_ready (rs := [6]) (by kernel_rfl) (by simp) ?_
      refine ZedOne.cons (o := { dst := some 62, op := Go.Op.call { callee := Go.Callee.builtin Go.Builtin.append, args := #[Go.Operand.tmp 57, Go.Operand.tmp 61], argTypes := #[127, 127] }, type := 127, pos := "ref.go:96", after := #[{ on := 1, ground := Go.Ground.data }, { on := 5, ground := Go.Ground.data }], guard := none }) rfl (fun K hK => ?_) ?_
      refine step_append_src rfl (.tmp 57) (.tmp 61) 127 rfl w3.heap.size 90 i0 (.agg #[.int .i64 0, .int .u32 0, .int .u32 0, .int .i64 0, .int .i64 0, .int .i64 0, .int .i64 0]) 7 48 Tryz.underlying127 HI.out.1 HI.out.2.1 HI.out.2.2.1 HI.out.2.2.2 rfl (by decide) _ 0 [] (by rfl) (own_empty (by first | exact heap_new _ _ | exact (by (try simp only [heap_drewN, heap_drew, heap_alloc_if, World.size_alloc, World.size_setCell, size_mput, size_mdel]); (first | (simp; done) | (simp [zeroEntry]; done) | (simp; omega) | (simp [zeroEntry]; omega)))) (by first | (simp; done) | (simp; omega))) n3 (l3.flatMap ucells) (.slice ad3 n3 cp3) rfl (T3.out.2.2.2.2.1 _ hS) T3.out.2.2.2.1 (by unfold maxLen; omega) (by omega) (by first | (simp; done) | (simp; omega)) ?_
      intro v4 w4 hown4 hg4
      simp only [Nat.zero_add, List.nil_append] at hown4
      have HP1 := Lib.hid (And.intro hown4 (And.intro (Fr.grown (S := []) (a := w3) (by (repeat (first | (with_reducible exact Fr.refl _ _) | (with_reducible assumption) | (with_reducible refine Fr.drew ?_) | (with_reducible refine Fr.drewN ?_ _) | (with_reducible refine Fr.alloc ?_ _) | (with_reducible refine Fr.mput ?_ _ _ _ (.inl (by simp))) | (with_reducible refine Fr.mdel ?_ _ _ (.inl (by simp))) | (with_reducible refine Fr.set ?_ _ _ (.inr (by first | omega | (dsimp only; omega)))) | (with_reducible refine Fr.set ?_ _ _ (.inl (by simp)))))) hg4 (fun k hk => .inr (by simp [Value.ownBlock] at hk; omega))) (fun (B : Nat) (o : Obj) (h : _ = some o) (hne : _) => (hg4.block B (lt_of h) hne).trans h)))
      clear hown4 hg4
      refine hK.out _ _ ?_ (fun hSn => ?_)
      · exact HP1.out.2.1
      clear hK K hS
      have hS := hSn
      clear hSn
      (try simp only [Act.put, List.setIfInBounds_toArray, List.set_cons_zero, List.set_cons_succ])
      refine wpAnyZ_ready (rs := [12]) (by kernel_rfl) (by simp) ?_
      refine ZedOne.cons (o := { dst := some 68, op := Go.Op.call { callee := Go.Callee.builtin Go.Builtin.append, args := #[Go.Operand.tmp 62, Go.Operand.tmp 67], argTypes := #[127, 127] }, type := 127, pos := "ref.go:96", after := #[{ on := 6, ground := Go.Ground.data }, { on := 11, ground := Go.Ground.data }, { on := 6, ground := Go.Ground.chain }], guard := none }) rfl (fun K hK => ?_) ?_
      refine step_append_src rfl (.tmp 62) (.tmp 67) 127 rfl w3.heap.size 90 i0 (.agg #[.int .i64 0, .int .u32 0, .int .u32 0, .int .i64 0, .int .i64 0, .int .i64 0, .int .i64 0]) 7 48 Tryz.underlying127 HI.out.1 HI.out.2.1 HI.out.2.2.1 HI.out.2.2.2 rfl (by decide) v4 n3 _ rfl (own_fr (S := []) (w := w4) HP1.out.1 (by (repeat (first | (with_reducible exact Fr.refl _ _) | (with_reducible assumption) | (with_reducible refine Fr.drew ?_) | (with_reducible refine Fr.drewN ?_ _) | (with_reducible refine Fr.alloc ?_ _) | (with_reducible refine Fr.mput ?_ _ _ _ (.inl (by simp))) | (with_reducible refine Fr.mdel ?_ _ _ (.inl (by simp))) | (with_reducible refine Fr.set ?_ _ _ (.inr (by first | omega | (dsimp only; omega)))) | (with_reducible refine Fr.set ?_ _ _ (.inl (by simp)))))) (by simp)) 1 [.int .i64 f.proto, .int .u32 f.src, .int .u32 f.dst, .int .i64 f.sport, .int .i64 f.dport, .int .i64 b, .int .i64 x] _ rfl (src_one (e := 90) (by first | exact heap_new _ _ | exact HP1.out.2.2 _ _ (by first | exact heap_new _ _ | exact (by (try simp only [heap_drewN, heap_drew, heap_alloc_if, World.size_alloc, World.size_setCell, size_mput, size_mdel]); (first | (simp; done) | (simp [zeroEntry]; done) | (simp; omega) | (simp [zeroEntry]; omega)))) (by simp [Value.ownBlock])) rfl) (by intro z hz; simp at hz; rcases hz with rfl | rfl | rfl | rfl | rfl | rfl | rfl <;> rfl) (by unfold maxLen; omega) (by omega) (Nat.le_trans HP1.out.2.1.size (by simp)) ?_
      intro v5 w5 hown5 hg5
      obtain ⟨ad5, cp5, rfl, hnc5⟩ := own_form' hown5
      clear hnc5
      have HP2 := Lib.hid (And.intro hown5 (Fr.grown (S := []) (a := w3) (by (repeat (first | (with_reducible exact Fr.refl _ _) | (with_reducible assumption) | (with_reducible refine Fr.drew ?_) | (with_reducible refine Fr.drewN ?_ _) | (with_reducible refine Fr.alloc ?_ _) | (with_reducible refine Fr.mput ?_ _ _ _ (.inl (by simp))) | (with_reducible refine Fr.mdel ?_ _ _ (.inl (by simp))) | (with_reducible refine Fr.set ?_ _ _ (.inr (by first | omega | (dsimp only; omega)))) | (with_reducible refine Fr.set ?_ _ _ (.inl (by simp)))))) hg5 (fun k hk => .inr (own_base HP1.out.1 k hk))))
      clear hown5 hg5
      refine hK.out _ _ ?_ (fun hSn => ?_)
      · exact HP2.out.2
      clear hK K hS
      have hS := hSn
      clear hSn
      (try simp only [Act.put, List.setIfInBounds_toArray, List.set_cons_zero, List.set_cons_succ])
      refine wpAnyZ_take (i := 13) (oi := { dst := some 69, op := Go.Op.nilCheck (Go.Operand.tmp 56), type := 0, pos := "ref.go:96", after := #[{ on := 0, ground := Go.Ground.data }, { on := 0, ground := Go.Ground.phase }, { on := 1, ground := Go.Ground.phase }, { on := 2, ground := Go.Ground.phase }, { on := 3, ground := Go.Ground.phase }, { on := 4, ground := Go.Ground.phase }, { on := 5, ground := Go.Ground.phase }, { on := 6, ground := Go.Ground.phase }, { on := 7, ground := Go.Ground.phase }, { on := 8, ground := Go.Ground.phase }, { on := 9, ground := Go.Ground.phase }, { on := 10, ground := Go.Ground.phase }, { on := 11, ground := Go.Ground.phase }, { on := 12, ground := Go.Ground.phase }], guard := none }) (v := _) rfl (by kernel_rfl) (by kernel_rfl) (by kernel_rfl) (by kernel_rfl) (by kernel_rfl) (fun _ _ _ h => h) (Or.inl ⟨by rfl, by (intro w' hSw; (try dsimp only at hSw); go_simp); (try (with_reducible rfl))⟩) (by assumption) ?_
      simp only [Act.put, List.setIfInBounds_toArray, List.set_cons_zero, List.set_cons_succ]
      refine wpAnyZ_take (i := 14) (oi := { dst := some 70, op := Go.Op.fieldAddr 129 (Go.Operand.tmp 69) 3, type := 0, pos := "ref.go:96", after := #[{ on := 13, ground := Go.Ground.data }, { on := 0, ground := Go.Ground.phase }, { on := 1, ground := Go.Ground.phase }, { on := 2, ground := Go.Ground.phase }, { on := 3, ground := Go.Ground.phase }, { on := 4, ground := Go.Ground.phase }, { on := 5, ground := Go.Ground.phase }, { on := 6, ground := Go.Ground.phase }, { on := 7, ground := Go.Ground.phase }, { on := 8, ground := Go.Ground.phase }, { on := 9, ground := Go.Ground.phase }, { on := 10, ground := Go.Ground.phase }, { on := 11, ground := Go.Ground.phase }, { on := 12, ground := Go.Ground.phase }], guard := none }) (v := _) rfl (by kernel_rfl) (by kernel_rfl) (by kernel_rfl) (by kernel_rfl) (by kernel_rfl) (fun _ _ _ h => h) (Or.inl ⟨by rfl, by (intro w' hSw; (try dsimp only at hSw); go_simp); (try (with_reducible rfl))⟩) (by assumption) ?_
      simp only [Act.put, List.setIfInBounds_toArray, List.set_cons_zero, List.set_cons_succ]
      refine wpAnyZ_ready (rs := [15]) (by kernel_rfl) (by simp) ?_
      refine ZedOne.last (o := { dst := none, op := Go.Op.store 127 (Go.Operand.tmp 70) (Go.Operand.tmp 68), type := 0, pos := "ref.go:96", after := #[{ on := 14, ground := Go.Ground.data }, { on := 12, ground := Go.Ground.data }, { on := 12, ground := Go.Ground.chain }, { on := 0, ground := Go.Ground.phase }, { on := 1, ground := Go.Ground.phase }, { on := 2, ground := Go.Ground.phase }, { on := 3, ground := Go.Ground.phase }, { on := 4, ground := Go.Ground.phase }, { on := 5, ground := Go.Ground.phase }, { on := 6, ground := Go.Ground.phase }, { on := 7, ground := Go.Ground.phase }, { on := 8, ground := Go.Ground.phase }, { on := 9, ground := Go.Ground.phase }, { on := 10, ground := Go.Ground.phase }, { on := 11, ground := Go.Ground.phase }, { on := 12, ground := Go.Ground.phase }], guard := none }) rfl (fun K hK => ?_)
      have u5 := (hS.cell (a := ⟨u, 3, none⟩) lu3 (by simp)).trans t3
      have u6 := (hS.free (a := ⟨u, 3, none⟩) lu3 (by simp)).trans ft3
      go_simp
      refine hK.out _ _ ?_
      clear hK K hS
      (try simp only [Act.put, List.setIfInBounds_toArray, List.set_cons_zero, List.set_cons_succ])
      refine wpAnyZ_done (by kernel_rfl) ?_ _
      rotate_left 1
      exact ZedOne.nil
      exact ZedOne.nil
      exact ZedOne.nil
      exact ZedOne.nil
      all_goals obtain ⟨hown5, hF5⟩ := HP2.out
      all_goals obtain ⟨⟨q0, q1, q2, q3, q4, q5, q6⟩, _⟩ := ent_cells (hF5.keep B3.out.2 (by simp))
      all_goals obtain ⟨⟨r0, r1, r2, r3, r4, r5, r6⟩, s0, s1, s2, s3, s4, s5, s6⟩ := ent_cells (hF5.keep B3.out.1 (by simp))
      all_goals have lr5 := lt_of (hF5.keep B3.out.1 (by simp))
      all_goals have lq5 := lt_of (hF5.keep B3.out.2 (by simp))
      all_goals have nq : ¬ (w1.heap.size = u) := by omega
      all_goals have nr : ¬ (w.heap.size + 1 = u) := by omega
      all_goals have nr' : ¬ (u = w.heap.size + 1) := by omega
      all_goals have nq' : ¬ (u = w1.heap.size) := by omega
      all_goals clear hown5 hF5
      all_goals go_wp2
      all_goals refine bodyPost_ret (v := .tuple #[.agg #[.int .i64 g0, .int .u32 g1, .int .u32 g2, .int .i64 g3, .int .i64 g4, .int .i64 g5, .int .i64 g6], .bool false]) (by simp [results, Tryz.results36, go_sem, lr5, r0, r1, r2, r3, r4, r5, r6, nr, nr']) rfl ⟨⟨_, rfl⟩, ?_⟩
      all_goals exact uput_done (c := w.heap.size + 1) ⟨f, b, x⟩ hul T3.out.1 T3.out.2.2.1 hl19 T3.out.2.2.2.2.2 HP2.out.1 HP2.out.2 (by omega) lr3 (by (repeat (first | (with_reducible exact Fr.refl _ _) | (with_reducible assumption) | (with_reducible refine Fr.drew ?_) | (with_reducible refine Fr.drewN ?_ _) | (with_reducible refine Fr.alloc ?_ _) | (with_reducible refine Fr.mput ?_ _ _ _ (.inl (by simp))) | (with_reducible refine Fr.mdel ?_ _ _ (.inl (by simp))) | (with_reducible refine Fr.set ?_ _ _ (.inr (by first | omega | (dsimp only; omega)))) | (with_reducible refine Fr.set ?_ _ _ (.inl (by simp))))))
    · obtain ⟨g, hgs, hgb, hgl, hgc⟩ : ∃ g, ad = some ⟨g, 0, none⟩ ∧ u + 1 ≤ g ∧ g < w2.heap.size ∧ ∀ (j : Nat) (x : Value), (l.flatMap ucells)[j]? = some x → w2.cell? ⟨g, j, none⟩ = some x := by
        obtain ⟨ad', cp', h0, _, h2⟩ := own_form H2.out.2.1.row
        cases h0
        obtain ⟨g, h3, h3b, h4, h5⟩ := h2 (by rw [H2.out.2.2.1]; omega)
        exact ⟨g, h3, h3b, h4, h5⟩
      subst hgs
      obtain ⟨e, he⟩ : ∃ e, l[0]? = some e := ⟨l[0]'(by rw [H2.out.2.2.1]; omega), List.getElem?_eq_getElem _⟩
      have cc := fun (t : Nat) (x : Value) (hx : (ucells e)[t]? = some x) => hgc _ _ (flat_at (k := 7) (enc := ucells) (fun _ => rfl) he hx)
      have k0 : w2.cell? ⟨g, 0, none⟩ = some (.int .i64 e.flow.proto) := cc 0 _ rfl
      have k1 : w2.cell? ⟨g, 1, none⟩ = some (.int .u32 e.flow.src) := cc 1 _ rfl
      have k2 : w2.cell? ⟨g, 2, none⟩ = some (.int .u32 e.flow.dst) := cc 2 _ rfl
      have k3 : w2.cell? ⟨g, 3, none⟩ = some (.int .i64 e.flow.sport) := cc 3 _ rfl
      have k4 : w2.cell? ⟨g, 4, none⟩ = some (.int .i64 e.flow.dport) := cc 4 _ rfl
      have k5 : w2.cell? ⟨g, 5, none⟩ = some (.int .i64 e.backend) := cc 5 _ rfl
      have k6 : w2.cell? ⟨g, 6, none⟩ = some (.int .i64 e.last) := cc 6 _ rfl
      have t5 := cell_at H2.out.2.2.2.2.2 5 (v := .int .i64 c2) rfl
      have f5 := free_at H2.out.2.2.2.2.2 5
      obtain ⟨⟨q0, q1, q2, q3, q4, q5, q6⟩, s0, s1, s2, s3, s4, s5, s6⟩ := ent_cells H2.out.2.2.2.2.1
      have lq2 := lt_of H2.out.2.2.2.2.1
      have n1 : ¬ (u = w1.heap.size) := by omega
      have n1' : ¬ (w1.heap.size = u) := by omega
      have n2 : ¬ (g = u) := by omega
      have n2' : ¬ (u = g) := by omega
      clear cc hgc he
      go_wp2
      go_quiet (fail)
      go_wp2_with fail
      refine (uout_any (UAt.set45 (UAt.fr (S := [w1.heap.size]) (H2.out.2.1.set45 (.inl rfl) (wrap64 (b2 + 1))) (by (repeat (first | (with_reducible exact Fr.refl _ _) | (with_reducible assumption) | (with_reducible refine Fr.drew ?_) | (with_reducible refine Fr.drewN ?_ _) | (with_reducible refine Fr.alloc ?_ _) | (with_reducible refine Fr.mput ?_ _ _ _ (.inl (by simp))) | (with_reducible refine Fr.mdel ?_ _ _ (.inl (by simp))) | (with_reducible refine Fr.set ?_ _ _ (.inr (by first | omega | (dsimp only; omega)))) | (with_reducible refine Fr.set ?_ _ _ (.inl (by simp)))))) (fun k hk => by have := H1.out.1.lt k hk; simp; omega)) (.inr rfl) _) 0 (by rw [H2.out.2.2.1]; omega)).mono ?_
      rintro en w3 ⟨rfl, v3, l3, hU3, hl3, hown3, hfr3⟩
      obtain ⟨hF2, hU2, hn, hfr2, hgo, ht2⟩ := H2.out
      have hl19 : l3.length ≤ 19 := by omega
      have hF3 : Fr [u] w w3 := ((H1.out.2.1.trans hF2 (by simp)).trans (S' := [u, w1.heap.size]) (by (repeat (first | (with_reducible exact Fr.refl _ _) | (with_reducible assumption) | (with_reducible refine Fr.drew ?_) | (with_reducible refine Fr.drewN ?_ _) | (with_reducible refine Fr.alloc ?_ _) | (with_reducible refine Fr.mput ?_ _ _ _ (.inl (by simp))) | (with_reducible refine Fr.mdel ?_ _ _ (.inl (by simp))) | (with_reducible refine Fr.set ?_ _ _ (.inr (by first | omega | (dsimp only; omega)))) | (with_reducible refine Fr.set ?_ _ _ (.inl (by simp)))))) (by simp; omega)).trans hfr3 (by simp)
      have hF23 : Fr [u, w1.heap.size] w2 w3 := Fr.trans (S := [u, w1.heap.size]) (S' := [u]) (by (repeat (first | (with_reducible exact Fr.refl _ _) | (with_reducible assumption) | (with_reducible refine Fr.drew ?_) | (with_reducible refine Fr.drewN ?_ _) | (with_reducible refine Fr.alloc ?_ _) | (with_reducible refine Fr.mput ?_ _ _ _ (.inl (by simp))) | (with_reducible refine Fr.mdel ?_ _ _ (.inl (by simp))) | (with_reducible refine Fr.set ?_ _ _ (.inr (by first | omega | (dsimp only; omega)))) | (with_reducible refine Fr.set ?_ _ _ (.inl (by simp)))))) hfr3 (by simp)
      have hfl3 := hF23.keep (hF2.keep H1.out.2.2.1 (by simp)) (by simp; omega)
      obtain ⟨g0, g1, g2, g3, g4, g5, g6, hg3⟩ : ∃ g0 g1 g2 g3 g4 g5 g6, w3.heap[w1.heap.size]? = some (.cells #[.int .i64 g0, .int .u32 g1, .int .u32 g2, .int .i64 g3, .int .i64 g4, .int .i64 g5, .int .i64 g6] 90 (0, 0)) := by
        refine ⟨e.flow.proto, e.flow.src, e.flow.dst, e.flow.sport, e.flow.dport, e.backend, e.last, hfr3.keep ?_ (by simp; omega)⟩
        rw [heap_set_ne _ _ _ (by simpa using n1')]
        refine heap_set (heap_set (heap_set (heap_set (heap_set (heap_set (heap_set (c := #[.int .i64 0, .int .u32 0, .int .u32 0, .int .i64 0, .int .i64 0, .int .i64 0, .int .i64 0]) ?_ _) _) _) _) _) _) _
        rw [heap_drewN, heap_set_ne _ _ _ (by simpa using n1')]
        exact hgo
      have B3 := Lib.hid (And.intro (hF23.keep (hF2.keep H1.out.2.2.2.1 (by simp)) (by simp; omega)) hg3)
      clear hF2 hU2 hn hfr2 hgo ht2 hg3 hF23 t0 t3 t4 f4 lu2 k0 k1 k2 k3 k4 k5 k6 t5 f5 q0 q1 q2 q3 q4 q5 q6 s0 s1 s2 s3 s4 s5 s6 lq2 n1 n1' n2 n2'
      obtain ⟨n3, hn3⟩ : ∃ n3, l3.length = n3 := ⟨_, rfl⟩
      obtain ⟨ad3, cp3, rfl, hsrc3⟩ := own_src hU3.row
      obtain ⟨a3, b3, c3, ht3⟩ := hU3.tab
      rw [hn3] at ht3 hl19 hsrc3
      have t3 := cell_at ht3 3 (v := .slice ad3 n3 cp3) rfl
      have ft3 := free_at ht3 3
      have lu3 := lt_of ht3
      obtain ⟨y0, y1, y2, y3, y4⟩ := flow_cells hfl3
      have ly := lt_of hfl3
      have hone := ucells_one l3
      have lr3 := lt_of B3.out.1
      have T3 := Lib.hid (And.intro hU3 (And.intro ht3 (And.intro hn3 (And.intro hone (And.intro hsrc3 hF3)))))
      clear hU3 ht3 hn3 hone hsrc3 hF3 hfl3
      go_wp2
      refine wp_region_zed (P := Tryz.prog) (fun wz => Fr [] w3 wz) 15 (by kernel_rfl) ?_ (fun hS => ?_)
      · exact (Fr.refl [] _).drew
      refine wpAnyZ_take (i := 0) (oi := { dst := some 56, op := Go.Op.move (Go.Operand.tmp 0), type := 39, pos := "ref.go:96", after := #[], guard := none }) (v := _) rfl (by kernel_rfl) (by kernel_rfl) (by kernel_rfl) (by kernel_rfl) (by kernel_rfl) (fun _ _ _ h => h) (Or.inl ⟨by rfl, by (intro w' hSw; (try dsimp only at hSw); go_simp); (try (with_reducible rfl))⟩) (by assumption) ?_
      simp only [Act.put, List.setIfInBounds_toArray, List.set_cons_zero, List.set_cons_succ]
      refine wpAnyZ_take (i := 2) (oi := { dst := some 58, op := Go.Op.move (Go.Operand.tmp 0), type := 39, pos := "ref.go:96", after := #[], guard := none }) (v := _) rfl (by kernel_rfl) (by kernel_rfl) (by kernel_rfl) (by kernel_rfl) (by kernel_rfl) (fun _ _ _ h => h) (Or.inl ⟨by rfl, by (intro w' hSw; (try dsimp only at hSw); go_simp); (try (with_reducible rfl))⟩) (by assumption) ?_
      simp only [Act.put, List.setIfInBounds_toArray, List.set_cons_zero, List.set_cons_succ]
      refine wpAnyZ_take (i := 3) (oi := { dst := some 59, op := Go.Op.nilCheck (Go.Operand.tmp 58), type := 0, pos := "ref.go:96", after := #[{ on := 2, ground := Go.Ground.data }], guard := none }) (v := _) rfl (by kernel_rfl) (by kernel_rfl) (by kernel_rfl) (by kernel_rfl) (by kernel_rfl) (fun _ _ _ h => h) (Or.inl ⟨by rfl, by (intro w' hSw; (try dsimp only at hSw); go_simp); (try (with_reducible rfl))⟩) (by assumption) ?_
      simp only [Act.put, List.setIfInBounds_toArray, List.set_cons_zero, List.set_cons_succ]
      refine wpAnyZ_take (i := 4) (oi := { dst := some 60, op := Go.Op.fieldAddr 129 (Go.Operand.tmp 59) 3, type := 0, pos := "ref.go:96", after := #[{ on := 3, ground := Go.Ground.data }], guard := none }) (v := _) rfl (by kernel_rfl) (by kernel_rfl) (by kernel_rfl) (by kernel_rfl) (by kernel_rfl) (fun _ _ _ h => h) (Or.inl ⟨by rfl, by (intro w' hSw; (try dsimp only at hSw); go_simp); (try (with_reducible rfl))⟩) (by assumption) ?_
      simp only [Act.put, List.setIfInBounds_toArray, List.set_cons_zero, List.set_cons_succ]
      refine wpAnyZ_take (i := 5) (oi := { dst := some 61, op := Go.Op.load 127 (Go.Operand.tmp 60), type := 127, pos := "ref.go:96", after := #[{ on := 4, ground := Go.Ground.data }], guard := none }) (v := _) rfl (by kernel_rfl) (by kernel_rfl) (by kernel_rfl) (by kernel_rfl) (by kernel_rfl) (fun _ _ _ h => h) (Or.inl ⟨by rfl, by (intro w' hSw; have k0 := (hSw.cell (a := ⟨w.heap.size, 0, none⟩) ly (by simp)).trans y0; have k1 := (hSw.cell (a := ⟨w.heap.size, 1, none⟩) ly (by simp)).trans y1; have k2 := (hSw.cell (a := ⟨w.heap.size, 2, none⟩) ly (by simp)).trans y2; have k3 := (hSw.cell (a := ⟨w.heap.size, 3, none⟩) ly (by simp)).trans y3; have k4 := (hSw.cell (a := ⟨w.heap.size, 4, none⟩) ly (by simp)).trans y4; have k5 := (hSw.cell (a := ⟨u, 3, none⟩) lu3 (by simp)).trans t3; (try dsimp only at hSw); go_simp); (try (with_reducible rfl))⟩) (by assumption) ?_
      simp only [Act.put, List.setIfInBounds_toArray, List.set_cons_zero, List.set_cons_succ]
      refine wpAnyZ_take (i := 7) (oi := { dst := some 63, op := Go.Op.load 31 (Go.Operand.tmp 5), type := 31, pos := "ref.go:96", after := #[], guard := none }) (v := _) rfl (by kernel_rfl) (by kernel_rfl) (by kernel_rfl) (by kernel_rfl) (by kernel_rfl) (fun _ _ _ h => h) (Or.inl ⟨by rfl, by (intro w' hSw; have k0 := (hSw.cell (a := ⟨w.heap.size, 0, none⟩) ly (by simp)).trans y0; have k1 := (hSw.cell (a := ⟨w.heap.size, 1, none⟩) ly (by simp)).trans y1; have k2 := (hSw.cell (a := ⟨w.heap.size, 2, none⟩) ly (by simp)).trans y2; have k3 := (hSw.cell (a := ⟨w.heap.size, 3, none⟩) ly (by simp)).trans y3; have k4 := (hSw.cell (a := ⟨w.heap.size, 4, none⟩) ly (by simp)).trans y4; have k5 := (hSw.cell (a := ⟨u, 3, none⟩) lu3 (by simp)).trans t3; (try dsimp only at hSw); go_simp); (try (with_reducible rfl))⟩) (by assumption) ?_
      simp only [Act.put, List.setIfInBounds_toArray, List.set_cons_zero, List.set_cons_succ]
      refine wpAnyZ_take (i := 8) (oi := { dst := some 64, op := Go.Op.move (Go.Operand.tmp 2), type := 3, pos := "ref.go:96", after := #[], guard := none }) (v := _) rfl (by kernel_rfl) (by kernel_rfl) (by kernel_rfl) (by kernel_rfl) (by kernel_rfl) (fun _ _ _ h => h) (Or.inl ⟨by rfl, by (intro w' hSw; (try dsimp only at hSw); go_simp); (try (with_reducible rfl))⟩) (by assumption) ?_
      simp only [Act.put, List.setIfInBounds_toArray, List.set_cons_zero, List.set_cons_succ]
      refine wpAnyZ_take (i := 9) (oi := { dst := some 65, op := Go.Op.move (Go.Operand.tmp 3), type := 3, pos := "ref.go:96", after := #[], guard := none }) (v := _) rfl (by kernel_rfl) (by kernel_rfl) (by kernel_rfl) (by kernel_rfl) (by kernel_rfl) (fun _ _ _ h => h) (Or.inl ⟨by rfl, by (intro w' hSw; (try dsimp only at hSw); go_simp); (try (with_reducible rfl))⟩) (by assumption) ?_
      simp only [Act.put, List.setIfInBounds_toArray, List.set_cons_zero, List.set_cons_succ]
      refine wpAnyZ_take (i := 10) (oi := { dst := some 66, op := Go.Op.build 90 #[(0, Go.Operand.tmp 63), (1, Go.Operand.tmp 64), (2, Go.Operand.tmp 65)], type := 90, pos := "ref.go:96", after := #[{ on := 7, ground := Go.Ground.data }, { on := 8, ground := Go.Ground.data }, { on := 9, ground := Go.Ground.data }], guard := none }) (v := _) rfl (by kernel_rfl) (by kernel_rfl) (by kernel_rfl) (by kernel_rfl) (by kernel_rfl) (fun _ _ _ h => h) (Or.inl ⟨by rfl, by (intro w' hSw; (try dsimp only at hSw); go_simp); (try (with_reducible rfl))⟩) (by assumption) ?_
      simp only [Act.put, List.setIfInBounds_toArray, List.set_cons_zero, List.set_cons_succ]
      refine wpAnyZ_ready (rs := [1, 11]) (by kernel_rfl) (by simp) ?_
      refine ZedOne.cons (o := { dst := some 57, op := Go.Op.buildSlice 127 0 #[], type := 127, pos := "ref.go:96", after := #[], guard := none }) rfl (fun K hK => ?_) ?_
      go_simp
      refine hK.out _ _ ?_ (fun hSn => ?_)
      · (try dsimp only at hS ⊢); (repeat (first | (with_reducible exact Fr.refl _ _) | (with_reducible assumption) | (with_reducible refine Fr.drew ?_) | (with_reducible refine Fr.drewN ?_ _) | (with_reducible refine Fr.alloc ?_ _) | (with_reducible refine Fr.mput ?_ _ _ _ (.inl (by simp))) | (with_reducible refine Fr.mdel ?_ _ _ (.inl (by simp))) | (with_reducible refine Fr.set ?_ _ _ (.inr (by first | omega | (dsimp only; omega)))) | (with_reducible refine Fr.set ?_ _ _ (.inl (by simp)))))
      clear hK K hS
      have hS := hSn
      clear hSn
      (try simp only [Act.put, List.setIfInBounds_toArray, List.set_cons_zero, List.set_cons_succ])
      refine wpAnyZ_ready (rs := [6, 11]) (by kernel_rfl) (by simp) ?_
      refine ZedOne.cons (o := { dst := some 62, op := Go.Op.call { callee := Go.Callee.builtin Go.Builtin.append, args := #[Go.Operand.tmp 57, Go.Operand.tmp 61], argTypes := #[127, 127] }, type := 127, pos := "ref.go:96", after := #[{ on := 1, ground := Go.Ground.data }, { on := 5, ground := Go.Ground.data }], guard := none }) rfl (fun K hK => ?_) ?_
      refine step_append_src rfl (.tmp 57) (.tmp 61) 127 rfl w3.heap.size 90 i0 (.agg #[.int .i64 0, .int .u32 0, .int .u32 0, .int .i64 0, .int .i64 0, .int .i64 0, .int .i64 0]) 7 48 Tryz.underlying127 HI.out.1 HI.out.2.1 HI.out.2.2.1 HI.out.2.2.2 rfl (by decide) _ 0 [] (by rfl) (own_empty (by first | exact heap_new _ _ | exact (by (try simp only [heap_drewN, heap_drew, heap_alloc_if, World.size_alloc, World.size_setCell, size_mput, size_mdel]); (first | (simp; done) | (simp [zeroEntry]; done) | (simp; omega) | (simp [zeroEntry]; omega)))) (by first | (simp; done) | (simp; omega))) n3 (l3.flatMap ucells) (.slice ad3 n3 cp3) rfl (T3.out.2.2.2.2.1 _ hS) T3.out.2.2.2.1 (by unfold maxLen; omega) (by omega) (by first | (simp; done) | (simp; omega)) ?_
      intro v4 w4 hown4 hg4
      simp only [Nat.zero_add, List.nil_append] at hown4
      have HP1 := Lib.hid (And.intro hown4 (And.intro (Fr.grown (S := []) (a := w3) (by (repeat (first | (with_reducible exact Fr.refl _ _) | (with_reducible assumption) | (with_reducible refine Fr.drew ?_) | (with_reducible refine Fr.drewN ?_ _) | (with_reducible refine Fr.alloc ?_ _) | (with_reducible refine Fr.mput ?_ _ _ _ (.inl (by simp))) | (with_reducible refine Fr.mdel ?_ _ _ (.inl (by simp))) | (with_reducible refine Fr.set ?_ _ _ (.inr (by first | omega | (dsimp only; omega)))) | (with_reducible refine Fr.set ?_ _ _ (.inl (by simp)))))) hg4 (fun k hk => .inr (by simp [Value.ownBlock] at hk; omega))) (fun (B : Nat) (o : Obj) (h : _ = some o) (hne : _) => (hg4.block B (lt_of h) hne).trans h)))
      clear hown4 hg4
      refine hK.out _ _ ?_ (fun hSn => ?_)
      · exact HP1.out.2.1
      clear hK K hS
      have hS := hSn
      clear hSn
      (try simp only [Act.put, List.setIfInBounds_toArray, List.set_cons_zero, List.set_cons_succ])
      refine wpAnyZ_ready (rs := [11]) (by kernel_rfl) (by simp) ?_
      refine ZedOne.cons (o := { dst := some 67, op := Go.Op.buildSlice 127 1 #[(0, Go.Operand.tmp 66)], type := 127, pos := "ref.go:96", after := #[{ on := 10, ground := Go.Ground.data }], guard := none }) rfl (fun K hK => ?_) ?_
      go_simp
      refine hK.out _ _ ?_ (fun hSn => ?_)
      · (try dsimp only at hS ⊢); (repeat (first | (with_reducible exact Fr.refl _ _) | (with_reducible assumption) | (with_reducible refine Fr.drew ?_) | (with_reducible refine Fr.drewN ?_ _) | (with_reducible refine Fr.alloc ?_ _) | (with_reducible refine Fr.mput ?_ _ _ _ (.inl (by simp))) | (with_reducible refine Fr.mdel ?_ _ _ (.inl (by simp))) | (with_reducible refine Fr.set ?_ _ _ (.inr (by first | omega | (dsimp only; omega)))) | (with_reducible refine Fr.set ?_ _ _ (.inl (by simp)))))
      clear hK K hS
      have hS := hSn
      clear hSn
      (try simp only [Act.put, List.setIfInBounds_toArray, List.set_cons_zero, List.set_cons_succ])
      refine wpAnyZ_ready (rs := [12]) (by kernel_rfl) (by simp) ?_
      refine ZedOne.cons (o := { dst := some 68, op := Go.Op.call { callee := Go.Callee.builtin Go.Builtin.append, args := #[Go.Operand.tmp 62, Go.Operand.tmp 67], argTypes := #[127, 127] }, type := 127, pos := "ref.go:96", after := #[{ on := 6, ground := Go.Ground.data }, { on := 11, ground := Go.Ground.data }, { on := 6, ground := Go.Ground.chain }], guard := none }) rfl (fun K hK => ?_) ?_
      refine step_append_src rfl (.tmp 62) (.tmp 67) 127 rfl w3.heap.size 90 i0 (.agg #[.int .i64 0, .int .u32 0, .int .u32 0, .int .i64 0, .int .i64 0, .int .i64 0, .int .i64 0]) 7 48 Tryz.underlying127 HI.out.1 HI.out.2.1 HI.out.2.2.1 HI.out.2.2.2 rfl (by decide) v4 n3 _ rfl (own_fr (S := []) (w := w4) HP1.out.1 (by (repeat (first | (with_reducible exact Fr.refl _ _) | (with_reducible assumption) | (with_reducible refine Fr.drew ?_) | (with_reducible refine Fr.drewN ?_ _) | (with_reducible refine Fr.alloc ?_ _) | (with_reducible refine Fr.mput ?_ _ _ _ (.inl (by simp))) | (with_reducible refine Fr.mdel ?_ _ _ (.inl (by simp))) | (with_reducible refine Fr.set ?_ _ _ (.inr (by first | omega | (dsimp only; omega)))) | (with_reducible refine Fr.set ?_ _ _ (.inl (by simp)))))) (by simp)) 1 [.int .i64 f.proto, .int .u32 f.src, .int .u32 f.dst, .int .i64 f.sport, .int .i64 f.dport, .int .i64 b, .int .i64 x] _ rfl (src_one (e := 90) (by first | exact heap_new _ _ | exact HP1.out.2.2 _ _ (by first | exact heap_new _ _ | exact (by (try simp only [heap_drewN, heap_drew, heap_alloc_if, World.size_alloc, World.size_setCell, size_mput, size_mdel]); (first | (simp; done) | (simp [zeroEntry]; done) | (simp; omega) | (simp [zeroEntry]; omega)))) (by simp [Value.ownBlock])) rfl) (by intro z hz; simp at hz; rcases hz with rfl | rfl | rfl | rfl | rfl | rfl | rfl <;> rfl) (by unfold maxLen; omega) (by omega) (Nat.le_trans HP1.out.2.1.size (by simp)) ?_
      intro v5 w5 hown5 hg5
      obtain ⟨ad5, cp5, rfl, hnc5⟩ := own_form' hown5
      clear hnc5
      have HP2 := Lib.hid (And.intro hown5 (Fr.grown (S := []) (a := w3) (by (repeat (first | (with_reducible exact Fr.refl _ _) | (with_reducible assumption) | (with_reducible refine Fr.drew ?_) | (with_reducible refine Fr.drewN ?_ _) | (with_reducible refine Fr.alloc ?_ _) | (with_reducible refine Fr.mput ?_ _ _ _ (.inl (by simp))) | (with_reducible refine Fr.mdel ?_ _ _ (.inl (by simp))) | (with_reducible refine Fr.set ?_ _ _ (.inr (by first | omega | (dsimp only; omega)))) | (with_reducible refine Fr.set ?_ _ _ (.inl (by simp)))))) hg5 (fun k hk => .inr (own_base HP1.out.1 k hk))))
      clear hown5 hg5
      refine hK.out _ _ ?_ (fun hSn => ?_)
      · exact HP2.out.2
      clear hK K hS
      have hS := hSn
      clear hSn
      (try simp only [Act.put, List.setIfInBounds_toArray, List.set_cons_zero, List.set_cons_succ])
      refine wpAnyZ_take (i := 13) (oi := { dst := some 69, op := Go.Op.nilCheck (Go.Operand.tmp 56), type := 0, pos := "ref.go:96", after := #[{ on := 0, ground := Go.Ground.data }, { on := 0, ground := Go.Ground.phase }, { on := 1, ground := Go.Ground.phase }, { on := 2, ground := Go.Ground.phase }, { on := 3, ground := Go.Ground.phase }, { on := 4, ground := Go.Ground.phase }, { on := 5, ground := Go.Ground.phase }, { on := 6, ground := Go.Ground.phase }, { on := 7, ground := Go.Ground.phase }, { on := 8, ground := Go.Ground.phase }, { on := 9, ground := Go.Ground.phase }, { on := 10, ground := Go.Ground.phase }, { on := 11, ground := Go.Ground.phase }, { on := 12, ground := Go.Ground.phase }], guard := none }) (v := _) rfl (by kernel_rfl) (by kernel_rfl) (by kernel_rfl) (by kernel_rfl) (by kernel_rfl) (fun _ _ _ h => h) (Or.inl ⟨by rfl, by (intro w' hSw; (try dsimp only at hSw); go_simp); (try (with_reducible rfl))⟩) (by assumption) ?_
      simp only [Act.put, List.setIfInBounds_toArray, List.set_cons_zero, List.set_cons_succ]
      refine wpAnyZ_take (i := 14) (oi := { dst := some 70, op := Go.Op.fieldAddr 129 (Go.Operand.tmp 69) 3, type := 0, pos := "ref.go:96", after := #[{ on := 13, ground := Go.Ground.data }, { on := 0, ground := Go.Ground.phase }, { on := 1, ground := Go.Ground.phase }, { on := 2, ground := Go.Ground.phase }, { on := 3, ground := Go.Ground.phase }, { on := 4, ground := Go.Ground.phase }, { on := 5, ground := Go.Ground.phase }, { on := 6, ground := Go.Ground.phase }, { on := 7, ground := Go.Ground.phase }, { on := 8, ground := Go.Ground.phase }, { on := 9, ground := Go.Ground.phase }, { on := 10, ground := Go.Ground.phase }, { on := 11, ground := Go.Ground.phase }, { on := 12, ground := Go.Ground.phase }], guard := none }) (v := _) rfl (by kernel_rfl) (by kernel_rfl) (by kernel_rfl) (by kernel_rfl) (by kernel_rfl) (fun _ _ _ h => h) (Or.inl ⟨by rfl, by (intro w' hSw; (try dsimp only at hSw); go_simp); (try (with_reducible rfl))⟩) (by assumption) ?_
      simp only [Act.put, List.setIfInBounds_toArray, List.set_cons_zero, List.set_cons_succ]
      refine wpAnyZ_ready (rs := [15]) (by kernel_rfl) (by simp) ?_
      refine ZedOne.last (o := { dst := none, op := Go.Op.store 127 (Go.Operand.tmp 70) (Go.Operand.tmp 68), type := 0, pos := "ref.go:96", after := #[{ on := 14, ground := Go.Ground.data }, { on := 12, ground := Go.Ground.data }, { on := 12, ground := Go.Ground.chain }, { on := 0, ground := Go.Ground.phase }, { on := 1, ground := Go.Ground.phase }, { on := 2, ground := Go.Ground.phase }, { on := 3, ground := Go.Ground.phase }, { on := 4, ground := Go.Ground.phase }, { on := 5, ground := Go.Ground.phase }, { on := 6, ground := Go.Ground.phase }, { on := 7, ground := Go.Ground.phase }, { on := 8, ground := Go.Ground.phase }, { on := 9, ground := Go.Ground.phase }, { on := 10, ground := Go.Ground.phase }, { on := 11, ground := Go.Ground.phase }, { on := 12, ground := Go.Ground.phase }], guard := none }) rfl (fun K hK => ?_)
      have u5 := (hS.cell (a := ⟨u, 3, none⟩) lu3 (by simp)).trans t3
      have u6 := (hS.free (a := ⟨u, 3, none⟩) lu3 (by simp)).trans ft3
      go_simp
      refine hK.out _ _ ?_
      clear hK K hS
      (try simp only [Act.put, List.setIfInBounds_toArray, List.set_cons_zero, List.set_cons_succ])
      refine wpAnyZ_done (by kernel_rfl) ?_ _
      rotate_left 1
      exact ZedOne.nil
      exact ZedOne.nil
      refine ZedOne.cons (o := { dst := some 67, op := Go.Op.buildSlice 127 1 #[(0, Go.Operand.tmp 66)], type := 127, pos := "ref.go:96", after := #[{ on := 10, ground := Go.Ground.data }], guard := none }) rfl (fun K hK => ?_) ?_
      go_simp
      refine hK.out _ _ ?_ (fun hSn => ?_)
      · (try dsimp only at hS ⊢); (repeat (first | (with_reducible exact Fr.refl _ _) | (with_reducible assumption) | (with_reducible refine Fr.drew ?_) | (with_reducible refine Fr.drewN ?_ _) | (with_reducible refine Fr.alloc ?_ _) | (with_reducible refine Fr.mput ?_ _ _ _ (.inl (by simp))) | (with_reducible refine Fr.mdel ?_ _ _ (.inl (by simp))) | (with_reducible refine Fr.set ?_ _ _ (.inr (by first | omega | (dsimp only; omega)))) | (with_reducible refine Fr.set ?_ _ _ (.inl (by simp)))))
      clear hK K hS
      have hS := hSn
      clear hSn
      (try simp only [Act.put, List.setIfInBounds_toArray, List.set_cons_zero, List.set_cons_succ])
      refine wpAnyZ_ready (rs := [6]) (by kernel_rfl) (by simp) ?_
      refine ZedOne.cons (o := { dst := some 62, op := Go.Op.call { callee := Go.Callee.builtin Go.Builtin.append, args := #[Go.Operand.tmp 57, Go.Operand.tmp 61], argTypes := #[127, 127] }, type := 127, pos := "ref.go:96", after := #[{ on := 1, ground := Go.Ground.data }, { on := 5, ground := Go.Ground.data }], guard := none }) rfl (fun K hK => ?_) ?_
      refine step_append_src rfl (.tmp 57) (.tmp 61) 127 rfl w3.heap.size 90 i0 (.agg #[.int .i64 0, .int .u32 0, .int .u32 0, .int .i64 0, .int .i64 0, .int .i64 0, .int .i64 0]) 7 48 Tryz.underlying127 HI.out.1 HI.out.2.1 HI.out.2.2.1 HI.out.2.2.2 rfl (by decide) _ 0 [] (by rfl) (own_empty (by first | exact heap_new _ _ | exact (by (try simp only [heap_drewN, heap_drew, heap_alloc_if, World.size_alloc, World.size_setCell, size_mput, size_mdel]); (first | (simp; done) | (simp [zeroEntry]; done) | (simp; omega) | (simp [zeroEntry]; omega)))) (by first | (simp; done) | (simp; omega))) n3 (l3.flatMap ucells) (.slice ad3 n3 cp3) rfl (T3.out.2.2.2.2.1 _ hS) T3.out.2.2.2.1 (by unfold maxLen; omega) (by omega) (by first | (simp; done) | (simp; omega)) ?_
      intro v4 w4 hown4 hg4
      simp only [Nat.zero_add, List.nil_append] at hown4
      have HP1 := Lib.hid (And.intro hown4 (And.intro (Fr.grown (S := []) (a := w3) (by (repeat (first | (with_reducible exact Fr.refl _ _) | (with_reducible assumption) | (with_reducible refine Fr.drew ?_) | (with_reducible refine Fr.drewN ?_ _) | (with_reducible refine Fr.alloc ?_ _) | (with_reducible refine Fr.mput ?_ _ _ _ (.inl (by simp))) | (with_reducible refine Fr.mdel ?_ _ _ (.inl (by simp))) | (with_reducible refine Fr.set ?_ _ _ (.inr (by first | omega | (dsimp only; omega)))) | (with_reducible refine Fr.set ?_ _ _ (.inl (by simp)))))) hg4 (fun k hk => .inr (by simp [Value.ownBlock] at hk; omega))) (fun (B : Nat) (o : Obj) (h : _ = some o) (hne : _) => (hg4.block B (lt_of h) hne).trans h)))
      clear hown4 hg4
      refine hK.out _ _ ?_ (fun hSn => ?_)
      · exact HP1.out.2.1
      clear hK K hS
      have hS := hSn
      clear hSn
      (try simp only [Act.put, List.setIfInBounds_toArray, List.set_cons_zero, List.set_cons_succ])
      refine wpAnyZ_ready (rs := [12]) (by kernel_rfl) (by simp) ?_
      refine ZedOne.cons (o := { dst := some 68, op := Go.Op.call { callee := Go.Callee.builtin Go.Builtin.append, args := #[Go.Operand.tmp 62, Go.Operand.tmp 67], argTypes := #[127, 127] }, type := 127, pos := "ref.go:96", after := #[{ on := 6, ground := Go.Ground.data }, { on := 11, ground := Go.Ground.data }, { on := 6, ground := Go.Ground.chain }], guard := none }) rfl (fun K hK => ?_) ?_
      refine step_append_src rfl (.tmp 62) (.tmp 67) 127 rfl w3.heap.size 90 i0 (.agg #[.int .i64 0, .int .u32 0, .int .u32 0, .int .i64 0, .int .i64 0, .int .i64 0, .int .i64 0]) 7 48 Tryz.underlying127 HI.out.1 HI.out.2.1 HI.out.2.2.1 HI.out.2.2.2 rfl (by decide) v4 n3 _ rfl (own_fr (S := []) (w := w4) HP1.out.1 (by (repeat (first | (with_reducible exact Fr.refl _ _) | (with_reducible assumption) | (with_reducible refine Fr.drew ?_) | (with_reducible refine Fr.drewN ?_ _) | (with_reducible refine Fr.alloc ?_ _) | (with_reducible refine Fr.mput ?_ _ _ _ (.inl (by simp))) | (with_reducible refine Fr.mdel ?_ _ _ (.inl (by simp))) | (with_reducible refine Fr.set ?_ _ _ (.inr (by first | omega | (dsimp only; omega)))) | (with_reducible refine Fr.set ?_ _ _ (.inl (by simp)))))) (by simp)) 1 [.int .i64 f.proto, .int .u32 f.src, .int .u32 f.dst, .int .i64 f.sport, .int .i64 f.dport, .int .i64 b, .int .i64 x] _ rfl (src_one (e := 90) (by first | exact heap_new _ _ | exact HP1.out.2.2 _ _ (by first | exact heap_new _ _ | exact (by (try simp only [heap_drewN, heap_drew, heap_alloc_if, World.size_alloc, World.size_setCell, size_mput, size_mdel]); (first | (simp; done) | (simp [zeroEntry]; done) | (simp; omega) | (simp [zeroEntry]; omega)))) (by simp [Value.ownBlock])) rfl) (by intro z hz; simp at hz; rcases hz with rfl | rfl | rfl | rfl | rfl | rfl | rfl <;> rfl) (by unfold maxLen; omega) (by omega) (Nat.le_trans HP1.out.2.1.size (by simp)) ?_
      intro v5 w5 hown5 hg5
      obtain ⟨ad5, cp5, rfl, hnc5⟩ := own_form' hown5
      clear hnc5
      have HP2 := Lib.hid (And.intro hown5 (Fr.grown (S := []) (a := w3) (by (repeat (first | (with_reducible exact Fr.refl _ _) | (with_reducible assumption) | (with_reducible refine Fr.drew ?_) | (with_reducible refine Fr.drewN ?_ _) | (with_reducible refine Fr.alloc ?_ _) | (with_reducible refine Fr.mput ?_ _ _ _ (.inl (by simp))) | (with_reducible refine Fr.mdel ?_ _ _ (.inl (by simp))) | (with_reducible refine Fr.set ?_ _ _ (.inr (by first | omega | (dsimp only; omega)))) | (with_reducible refine Fr.set ?_ _ _ (.inl (by simp)))))) hg5 (fun k hk => .inr (own_base HP1.out.1 k hk))))
      clear hown5 hg5
      refine hK.out _ _ ?_ (fun hSn => ?_)
      · exact HP2.out.2
      clear hK K hS
      have hS := hSn
      clear hSn
      (try simp only [Act.put, List.setIfInBounds_toArray, List.set_cons_zero, List.set_cons_succ])
      refine wpAnyZ_take (i := 13) (oi := { dst := some 69, op := Go.Op.nilCheck (Go.Operand.tmp 56), type := 0, pos := "ref.go:96", after := #[{ on := 0, ground := Go.Ground.data }, { on := 0, ground := Go.Ground.phase }, { on := 1, ground := Go.Ground.phase }, { on := 2, ground := Go.Ground.phase }, { on := 3, ground := Go.Ground.phase }, { on := 4, ground := Go.Ground.phase }, { on := 5, ground := Go.Ground.phase }, { on := 6, ground := Go.Ground.phase }, { on := 7, ground := Go.Ground.phase }, { on := 8, ground := Go.Ground.phase }, { on := 9, ground := Go.Ground.phase }, { on := 10, ground := Go.Ground.phase }, { on := 11, ground := Go.Ground.phase }, { on := 12, ground := Go.Ground.phase }], guard := none }) (v := _) rfl (by kernel_rfl) (by kernel_rfl) (by kernel_rfl) (by kernel_rfl) (by kernel_rfl) (fun _ _ _ h => h) (Or.inl ⟨by rfl, by (intro w' hSw; (try dsimp only at hSw); go_simp); (try (with_reducible rfl))⟩) (by assumption) ?_
      simp only [Act.put, List.setIfInBounds_toArray, List.set_cons_zero, List.set_cons_succ]
      refine wpAnyZ_take (i := 14) (oi := { dst := some 70, op := Go.Op.fieldAddr 129 (Go.Operand.tmp 69) 3, type := 0, pos := "ref.go:96", after := #[{ on := 13, ground := Go.Ground.data }, { on := 0, ground := Go.Ground.phase }, { on := 1, ground := Go.Ground.phase }, { on := 2, ground := Go.Ground.phase }, { on := 3, ground := Go.Ground.phase }, { on := 4, ground := Go.Ground.phase }, { on := 5, ground := Go.Ground.phase }, { on := 6, ground := Go.Ground.phase }, { on := 7, ground := Go.Ground.phase }, { on := 8, ground := Go.Ground.phase }, { on := 9, ground := Go.Ground.phase }, { on := 10, ground := Go.Ground.phase }, { on := 11, ground := Go.Ground.phase }, { on := 12, ground := Go.Ground.phase }], guard := none }) (v := _) rfl (by kernel_rfl) (by kernel_rfl) (by kernel_rfl) (by kernel_rfl) (by kernel_rfl) (fun _ _ _ h => h) (Or.inl ⟨by rfl, by (intro w' hSw; (try dsimp only at hSw); go_simp); (try (with_reducible rfl))⟩) (by assumption) ?_
      simp only [Act.put, List.setIfInBounds_toArray, List.set_cons_zero, List.set_cons_succ]
      refine wpAnyZ_ready (rs := [15]) (by kernel_rfl) (by simp) ?_
      refine ZedOne.last (o := { dst := none, op := Go.Op.store 127 (Go.Operand.tmp 70) (Go.Operand.tmp 68), type := 0, pos := "ref.go:96", after := #[{ on := 14, ground := Go.Ground.data }, { on := 12, ground := Go.Ground.data }, { on := 12, ground := Go.Ground.chain }, { on := 0, ground := Go.Ground.phase }, { on := 1, ground := Go.Ground.phase }, { on := 2, ground := Go.Ground.phase }, { on := 3, ground := Go.Ground.phase }, { on := 4, ground := Go.Ground.phase }, { on := 5, ground := Go.Ground.phase }, { on := 6, ground := Go.Ground.phase }, { on := 7, ground := Go.Ground.phase }, { on := 8, ground := Go.Ground.phase }, { on := 9, ground := Go.Ground.phase }, { on := 10, ground := Go.Ground.phase }, { on := 11, ground := Go.Ground.phase }, { on := 12, ground := Go.Ground.phase }], guard := none }) rfl (fun K hK => ?_)
      have u5 := (hS.cell (a := ⟨u, 3, none⟩) lu3 (by simp)).trans t3
      have u6 := (hS.free (a := ⟨u, 3, none⟩) lu3 (by simp)).trans ft3
      go_simp
      refine hK.out _ _ ?_
      clear hK K hS
      (try simp only [Act.put, List.setIfInBounds_toArray, List.set_cons_zero, List.set_cons_succ])
      refine wpAnyZ_done (by kernel_rfl) ?_ _
      rotate_left 1
      exact ZedOne.nil
      exact ZedOne.nil
      exact ZedOne.nil
      refine ZedOne.cons (o := { dst := some 67, op := Go.Op.buildSlice 127 1 #[(0, Go.Operand.tmp 66)], type := 127, pos := "ref.go:96", after := #[{ on := 10, ground := Go.Ground.data }], guard := none }) rfl (fun K hK => ?_) ?_
      go_simp
      refine hK.out _ _ ?_ (fun hSn => ?_)
      · (try dsimp only at hS ⊢); (repeat (first | (with_reducible exact Fr.refl _ _) | (with_reducible assumption) | (with_reducible refine Fr.drew ?_) | (with_reducible refine Fr.drewN ?_ _) | (with_reducible refine Fr.alloc ?_ _) | (with_reducible refine Fr.mput ?_ _ _ _ (.inl (by simp))) | (with_reducible refine Fr.mdel ?_ _ _ (.inl (by simp))) | (with_reducible refine Fr.set ?_ _ _ (.inr (by first | omega | (dsimp only; omega)))) | (with_reducible refine Fr.set ?_ _ _ (.inl (by simp)))))
      clear hK K hS
      have hS := hSn
      clear hSn
      (try simp only [Act.put, List.setIfInBounds_toArray, List.set_cons_zero, List.set_cons_succ])
      refine wpAnyZ_ready (rs := [1]) (by kernel_rfl) (by simp) ?_
      refine ZedOne.cons (o := { dst := some 57, op := Go.Op.buildSlice 127 0 #[], type := 127, pos := "ref.go:96", after := #[], guard := none }) rfl (fun K hK => ?_) ?_
      go_simp
      refine hK.out _ _ ?_ (fun hSn => ?_)
      · (try dsimp only at hS ⊢); (repeat (first | (with_reducible exact Fr.refl _ _) | (with_reducible assumption) | (with_reducible refine Fr.drew ?_) | (with_reducible refine Fr.drewN ?_ _) | (with_reducible refine Fr.alloc ?_ _) | (with_reducible refine Fr.mput ?_ _ _ _ (.inl (by simp))) | (with_reducible refine Fr.mdel ?_ _ _ (.inl (by simp))) | (with_reducible refine Fr.set ?_ _ _ (.inr (by first | omega | (dsimp only; omega)))) | (with_reducible refine Fr.set ?_ _ _ (.inl (by simp)))))
      clear hK K hS
      have hS := hSn
      clear hSn
      (try simp only [Act.put, List.setIfInBounds_toArray, List.set_cons_zero, List.set_cons_succ])
      refine wpAnyZ_ready (rs := [6]) (by kernel_rfl) (by simp) ?_
      refine ZedOne.cons (o := { dst := some 62, op := Go.Op.call { callee := Go.Callee.builtin Go.Builtin.append, args := #[Go.Operand.tmp 57, Go.Operand.tmp 61], argTypes := #[127, 127] }, type := 127, pos := "ref.go:96", after := #[{ on := 1, ground := Go.Ground.data }, { on := 5, ground := Go.Ground.data }], guard := none }) rfl (fun K hK => ?_) ?_
      refine step_append_src rfl (.tmp 57) (.tmp 61) 127 rfl w3.heap.size 90 i0 (.agg #[.int .i64 0, .int .u32 0, .int .u32 0, .int .i64 0, .int .i64 0, .int .i64 0, .int .i64 0]) 7 48 Tryz.underlying127 HI.out.1 HI.out.2.1 HI.out.2.2.1 HI.out.2.2.2 rfl (by decide) _ 0 [] (by rfl) (own_empty (by first | exact heap_new _ _ | exact (by (try simp only [heap_drewN, heap_drew, heap_alloc_if, World.size_alloc, World.size_setCell, size_mput, size_mdel]); (first | (simp; done) | (simp [zeroEntry]; done) | (simp; omega) | (simp [zeroEntry]; omega)))) (by first | (simp; done) | (simp; omega))) n3 (l3.flatMap ucells) (.slice ad3 n3 cp3) rfl (T3.out.2.2.2.2.1 _ hS) T3.out.2.2.2.1 (by unfold maxLen; omega) (by omega) (by first | (simp; done) | (simp; omega)) ?_
      intro v4 w4 hown4 hg4
      simp only [Nat.zero_add, List.nil_append] at hown4
      have HP1 := Lib.hid (And.intro hown4 (And.intro (Fr.grown (S := []) (a := w3) (by (repeat (first | (with_reducible exact Fr.refl _ _) | (with_reducible assumption) | (with_reducible refine Fr.drew ?_) | (with_reducible refine Fr.drewN ?_ _) | (with_reducible refine Fr.alloc ?_ _) | (with_reducible refine Fr.mput ?_ _ _ _ (.inl (by simp))) | (with_reducible refine Fr.mdel ?_ _ _ (.inl (by simp))) | (with_reducible refine Fr.set ?_ _ _ (.inr (by first | omega | (dsimp only; omega)))) | (with_reducible refine Fr.set ?_ _ _ (.inl (by simp)))))) hg4 (fun k hk => .inr (by simp [Value.ownBlock] at hk; omega))) (fun (B : Nat) (o : Obj) (h : _ = some o) (hne : _) => (hg4.block B (lt_of h) hne).trans h)))
      clear hown4 hg4
      refine hK.out _ _ ?_ (fun hSn => ?_)
      · exact HP1.out.2.1
      clear hK K hS
      have hS := hSn
      clear hSn
      (try simp only [Act.put, List.setIfInBounds_toArray, List.set_cons_zero, List.set_cons_succ])
      refine wpAnyZ_ready (rs := [12]) (by kernel_rfl) (by simp) ?_
      refine ZedOne.cons (o := { dst := some 68, op := Go.Op.call { callee := Go.Callee.builtin Go.Builtin.append, args := #[Go.Operand.tmp 62, Go.Operand.tmp 67], argTypes := #[127, 127] }, type := 127, pos := "ref.go:96", after := #[{ on := 6, ground := Go.Ground.data }, { on := 11, ground := Go.Ground.data }, { on := 6, ground := Go.Ground.chain }], guard := none }) rfl (fun K hK => ?_) ?_
      refine step_append_src rfl (.tmp 62) (.tmp 67) 127 rfl w3.heap.size 90 i0 (.agg #[.int .i64 0, .int .u32 0, .int .u32 0, .int .i64 0, .int .i64 0, .int .i64 0, .int .i64 0]) 7 48 Tryz.underlying127 HI.out.1 HI.out.2.1 HI.out.2.2.1 HI.out.2.2.2 rfl (by decide) v4 n3 _ rfl (own_fr (S := []) (w := w4) HP1.out.1 (by (repeat (first | (with_reducible exact Fr.refl _ _) | (with_reducible assumption) | (with_reducible refine Fr.drew ?_) | (with_reducible refine Fr.drewN ?_ _) | (with_reducible refine Fr.alloc ?_ _) | (with_reducible refine Fr.mput ?_ _ _ _ (.inl (by simp))) | (with_reducible refine Fr.mdel ?_ _ _ (.inl (by simp))) | (with_reducible refine Fr.set ?_ _ _ (.inr (by first | omega | (dsimp only; omega)))) | (with_reducible refine Fr.set ?_ _ _ (.inl (by simp)))))) (by simp)) 1 [.int .i64 f.proto, .int .u32 f.src, .int .u32 f.dst, .int .i64 f.sport, .int .i64 f.dport, .int .i64 b, .int .i64 x] _ rfl (src_one (e := 90) (by first | exact heap_new _ _ | exact HP1.out.2.2 _ _ (by first | exact heap_new _ _ | exact (by (try simp only [heap_drewN, heap_drew, heap_alloc_if, World.size_alloc, World.size_setCell, size_mput, size_mdel]); (first | (simp; done) | (simp [zeroEntry]; done) | (simp; omega) | (simp [zeroEntry]; omega)))) (by simp [Value.ownBlock])) rfl) (by intro z hz; simp at hz; rcases hz with rfl | rfl | rfl | rfl | rfl | rfl | rfl <;> rfl) (by unfold maxLen; omega) (by omega) (Nat.le_trans HP1.out.2.1.size (by simp)) ?_
      intro v5 w5 hown5 hg5
      obtain ⟨ad5, cp5, rfl, hnc5⟩ := own_form' hown5
      clear hnc5
      have HP2 := Lib.hid (And.intro hown5 (Fr.grown (S := []) (a := w3) (by (repeat (first | (with_reducible exact Fr.refl _ _) | (with_reducible assumption) | (with_reducible refine Fr.drew ?_) | (with_reducible refine Fr.drewN ?_ _) | (with_reducible refine Fr.alloc ?_ _) | (with_reducible refine Fr.mput ?_ _ _ _ (.inl (by simp))) | (with_reducible refine Fr.mdel ?_ _ _ (.inl (by simp))) | (with_reducible refine Fr.set ?_ _ _ (.inr (by first | omega | (dsimp only; omega)))) | (with_reducible refine Fr.set ?_ _ _ (.inl (by simp)))))) hg5 (fun k hk => .inr (own_base HP1.out.1 k hk))))
      clear hown5 hg5
      refine hK.out _ _ ?_ (fun hSn => ?_)
      · exact HP2.out.2
      clear hK K hS
      have hS := hSn
      clear hSn
      (try simp only [Act.put, List.setIfInBounds_toArray, List.set_cons_zero, List.set_cons_succ])
      refine wpAnyZ_take (i := 13) (oi := { dst := some 69, op := Go.Op.nilCheck (Go.Operand.tmp 56), type := 0, pos := "ref.go:96", after := #[{ on := 0, ground := Go.Ground.data }, { on := 0, ground := Go.Ground.phase }, { on := 1, ground := Go.Ground.phase }, { on := 2, ground := Go.Ground.phase }, { on := 3, ground := Go.Ground.phase }, { on := 4, ground := Go.Ground.phase }, { on := 5, ground := Go.Ground.phase }, { on := 6, ground := Go.Ground.phase }, { on := 7, ground := Go.Ground.phase }, { on := 8, ground := Go.Ground.phase }, { on := 9, ground := Go.Ground.phase }, { on := 10, ground := Go.Ground.phase }, { on := 11, ground := Go.Ground.phase }, { on := 12, ground := Go.Ground.phase }], guard := none }) (v := _) rfl (by kernel_rfl) (by kernel_rfl) (by kernel_rfl) (by kernel_rfl) (by kernel_rfl) (fun _ _ _ h => h) (Or.inl ⟨by rfl, by (intro w' hSw; (try dsimp only at hSw); go_simp); (try (with_reducible rfl))⟩) (by assumption) ?_
      simp only [Act.put, List.setIfInBounds_toArray, List.set_cons_zero, List.set_cons_succ]
      refine wpAnyZ_take (i := 14) (oi := { dst := some 70, op := Go.Op.fieldAddr 129 (Go.Operand.tmp 69) 3, type := 0, pos := "ref.go:96", after := #[{ on := 13, ground := Go.Ground.data }, { on := 0, ground := Go.Ground.phase }, { on := 1, ground := Go.Ground.phase }, { on := 2, ground := Go.Ground.phase }, { on := 3, ground := Go.Ground.phase }, { on := 4, ground := Go.Ground.phase }, { on := 5, ground := Go.Ground.phase }, { on := 6, ground := Go.Ground.phase }, { on := 7, ground := Go.Ground.phase }, { on := 8, ground := Go.Ground.phase }, { on := 9, ground := Go.Ground.phase }, { on := 10, ground := Go.Ground.phase }, { on := 11, ground := Go.Ground.phase }, { on := 12, ground := Go.Ground.phase }], guard := none }) (v := _) rfl (by kernel_rfl) (by kernel_rfl) (by kernel_rfl) (by kernel_rfl) (by kernel_rfl) (fun _ _ _ h => h) (Or.inl ⟨by rfl, by (intro w' hSw; (try dsimp only at hSw); go_simp); (try (with_reducible rfl))⟩) (by assumption) ?_
      simp only [Act.put, List.setIfInBounds_toArray, List.set_cons_zero, List.set_cons_succ]
      refine wpAnyZ_ready (rs := [15]) (by kernel_rfl) (by simp) ?_
      refine ZedOne.last (o := { dst := none, op := Go.Op.store 127 (Go.Operand.tmp 70) (Go.Operand.tmp 68), type := 0, pos := "ref.go:96", after := #[{ on := 14, ground := Go.Ground.data }, { on := 12, ground := Go.Ground.data }, { on := 12, ground := Go.Ground.chain }, { on := 0, ground := Go.Ground.phase }, { on := 1, ground := Go.Ground.phase }, { on := 2, ground := Go.Ground.phase }, { on := 3, ground := Go.Ground.phase }, { on := 4, ground := Go.Ground.phase }, { on := 5, ground := Go.Ground.phase }, { on := 6, ground := Go.Ground.phase }, { on := 7, ground := Go.Ground.phase }, { on := 8, ground := Go.Ground.phase }, { on := 9, ground := Go.Ground.phase }, { on := 10, ground := Go.Ground.phase }, { on := 11, ground := Go.Ground.phase }, { on := 12, ground := Go.Ground.phase }], guard := none }) rfl (fun K hK => ?_)
      have u5 := (hS.cell (a := ⟨u, 3, none⟩) lu3 (by simp)).trans t3
      have u6 := (hS.free (a := ⟨u, 3, none⟩) lu3 (by simp)).trans ft3
      go_simp
      refine hK.out _ _ ?_
      clear hK K hS
      (try simp only [Act.put, List.setIfInBounds_toArray, List.set_cons_zero, List.set_cons_succ])
      refine wpAnyZ_done (by kernel_rfl) ?_ _
      rotate_left 1
      exact ZedOne.nil
      exact ZedOne.nil
      exact ZedOne.nil
      exact ZedOne.nil
      all_goals obtain ⟨hown5, hF5⟩ := HP2.out
      all_goals obtain ⟨⟨q0, q1, q2, q3, q4, q5, q6⟩, _⟩ := ent_cells (hF5.keep B3.out.2 (by simp))
      all_goals obtain ⟨⟨r0, r1, r2, r3, r4, r5, r6⟩, s0, s1, s2, s3, s4, s5, s6⟩ := ent_cells (hF5.keep B3.out.1 (by simp))
      all_goals have lr5 := lt_of (hF5.keep B3.out.1 (by simp))
      all_goals have lq5 := lt_of (hF5.keep B3.out.2 (by simp))
      all_goals have nq : ¬ (w1.heap.size = u) := by omega
      all_goals have nr : ¬ (w.heap.size + 1 = u) := by omega
      all_goals have nr' : ¬ (u = w.heap.size + 1) := by omega
      all_goals have nq' : ¬ (u = w1.heap.size) := by omega
      all_goals clear hown5 hF5
      all_goals go_wp2
      all_goals refine bodyPost_ret (v := .tuple #[.agg #[.int .i64 g0, .int .u32 g1, .int .u32 g2, .int .i64 g3, .int .i64 g4, .int .i64 g5, .int .i64 g6], .bool true]) (by simp [results, Tryz.results36, go_sem, lr5, r0, r1, r2, r3, r4, r5, r6, nr, nr']) rfl ⟨⟨_, rfl⟩, ?_⟩
      all_goals exact uput_done (c := w.heap.size + 1) ⟨f, b, x⟩ hul T3.out.1 T3.out.2.2.1 hl19 T3.out.2.2.2.2.2 HP2.out.1 HP2.out.2 (by omega) lr3 (by (repeat (first | (with_reducible exact Fr.refl _ _) | (with_reducible assumption) | (with_reducible refine Fr.drew ?_) | (with_reducible refine Fr.drewN ?_ _) | (with_reducible refine Fr.alloc ?_ _) | (with_reducible refine Fr.mput ?_ _ _ _ (.inl (by simp))) | (with_reducible refine Fr.mdel ?_ _ _ (.inl (by simp))) | (with_reducible refine Fr.set ?_ _ _ (.inr (by first | omega | (dsimp only; omega)))) | (with_reducible refine Fr.set ?_ _ _ (.inl (by simp))))))
end Go.Proofs.YthahlimmmnmniaaGreatDoor
