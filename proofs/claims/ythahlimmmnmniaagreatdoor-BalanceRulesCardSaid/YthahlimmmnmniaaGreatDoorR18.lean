/- cmp.Compare, cmp.Or at ints; the two orders that the program sorts by. No conditions. -/
import Derived.Test.YthahlimmmnmniaaGreatDoorRows
import Derived.Deep.QuietTactic
import Derived.Deep.RegionWith
import Derived.Handy
import Derived.Deep.RegionHeld3
import Derived.LoopN
import Derived.Test.YthahlimmmnmniaaGreatDoorR02
import Derived.Test.YthahlimmmnmniaaGreatDoorR16
namespace Go.Proofs.YthahlimmmnmniaaGreatDoor
open Go.RowKit Go.Fw Go.Sort Go.Shelf

theorem nanInt (x : Int) (w : World) : Calls Tryz.prog 98 #[.int .i64 x] w fun en w' => en = .returned (.bool false) ∧ w = w' := by
  go_enter Tryz.func98, Tryz.ntmps98
  go_wp2
  go_returns
  exact ⟨by simp, rfl⟩
theorem nanU64 (x : Int) (w : World) : Calls Tryz.prog 105 #[.int .u64 x] w fun en w' => en = .returned (.bool false) ∧ w = w' := by
  go_enter Tryz.func105, Tryz.ntmps105
  go_wp2
  go_returns
  exact ⟨by simp, rfl⟩

theorem cmpInt (x y : Int) (w : World) : Calls Tryz.prog 85 #[.int .i64 x, .int .i64 y] w fun en w' => en = .returned (.int .i64 (Lib.compareInt x y)) ∧ w = w' := by
  go_enter Tryz.func85, Tryz.ntmps85
  go_wp2_with (go_at_call 98; refine (nanInt _ _).mono ?_; rintro en w1 ⟨rfl, rfl⟩)
  all_goals (go_returns; refine ⟨?_, rfl⟩; unfold Lib.compareInt; (repeat' split) <;> first | rfl | (exfalso; omega))
theorem cmpU64 (x y : Int) (w : World) : Calls Tryz.prog 93 #[.int .u64 x, .int .u64 y] w fun en w' => en = .returned (.int .i64 (Lib.compareInt x y)) ∧ w = w' := by
  go_enter Tryz.func93, Tryz.ntmps93
  go_wp2_with (go_at_call 105; refine (nanU64 _ _).mono ?_; rintro en w1 ⟨rfl, rfl⟩)
  all_goals (go_returns; refine ⟨?_, rfl⟩; unfold Lib.compareInt; (repeat' split) <;> first | rfl | (exfalso; omega))

/-- cmp.Or: the first that is not zero. -/
def orI (a b : Int) : Int := if a = 0 then b else a

theorem or2 (b : Nat) (x y : Int) (w : World) (h0 : w.cell? ⟨b, 0, none⟩ = some (.int .i64 x)) (h1 : w.cell? ⟨b, 1, none⟩ = some (.int .i64 y)) :
    Calls Tryz.prog 84 #[.slice (some ⟨b, 0, none⟩) 2 2] w fun en w' => en = .returned (.int .i64 (orI x y)) ∧ w = w' := by
  go_enter Tryz.func84, Tryz.ntmps84
  go_wp2
  refine wp_loop_rounds 3 ?_
  all_goals (try (rw [rounds_succ]; go_wp2))
  all_goals (try (rw [rounds_succ]; go_wp2))
  all_goals (try (rw [rounds_succ]; go_wp2))
  all_goals (go_returns; refine ⟨?_, rfl⟩; simp_all [orI])
theorem or3 (b : Nat) (x y z : Int) (w : World) (h0 : w.cell? ⟨b, 0, none⟩ = some (.int .i64 x)) (h1 : w.cell? ⟨b, 1, none⟩ = some (.int .i64 y)) (h2 : w.cell? ⟨b, 2, none⟩ = some (.int .i64 z)) :
    Calls Tryz.prog 84 #[.slice (some ⟨b, 0, none⟩) 3 3] w fun en w' => en = .returned (.int .i64 (orI x (orI y z))) ∧ w = w' := by
  go_enter Tryz.func84, Tryz.ntmps84
  go_wp2
  refine wp_loop_rounds 4 ?_
  all_goals (try (rw [rounds_succ]; go_wp2))
  all_goals (try (rw [rounds_succ]; go_wp2))
  all_goals (try (rw [rounds_succ]; go_wp2))
  all_goals (try (rw [rounds_succ]; go_wp2))
  all_goals (go_returns; refine ⟨?_, rfl⟩; simp_all [orI])

theorem alloc_grow2 (w : World) (a b : Obj) : (w.alloc a).alloc b = grow w #[a, b] := by rw [alloc_eq_grow, alloc_eq_grow, grow_grow]; rfl

def encSeat (x : Int × Int × Int) : List Value := [.int .i64 x.1, .int .i64 x.2.1, .int .u64 x.2.2]
def cmpSeat (a b : Int × Int × Int) : Int := orI (Lib.compareInt b.2.2 a.2.2) (orI (Lib.compareInt a.2.1 b.2.1) (Lib.compareInt a.1 b.1))
def encSite (x : Int × Int × Int) : List Value := [.int .i64 x.1, .int .u32 x.2.1, .int .i64 x.2.2]
def cmpSite (a b : Int × Int × Int) : Int := orI (Lib.compareInt a.2.2 b.2.2) (Lib.compareInt a.1 b.1)


set_option maxHeartbeats 4000000 in
theorem seats1_walk (x1 x2 x3 y1 y2 y3 : Int) (W : World) :
    Calls Tryz.prog 92 #[.agg #[.int .i64 x1, .int .i64 x2, .int .u64 x3], .agg #[.int .i64 y1, .int .i64 y2, .int .u64 y3]] W fun en w' => en = .returned (.int .i64 (orI (Lib.compareInt y3 x3) (orI (Lib.compareInt x2 y2) (Lib.compareInt x1 y1)))) ∧ ∃ q os', w' = grow (W.drewN q) os' := by
  go_enter Tryz.func92, Tryz.ntmps92
  go_wp2
  go_region_held3 (fun w' => w'.cell? ⟨W.heap.size + 1, 2, none⟩ = some (.int .u64 y3) ∧ w'.cell? ⟨W.heap.size, 2, none⟩ = some (.int .u64 x3) ∧ w'.cell? ⟨W.heap.size, 1, none⟩ = some (.int .i64 x2) ∧ w'.cell? ⟨W.heap.size + 1, 1, none⟩ = some (.int .i64 y2) ∧ w'.cell? ⟨W.heap.size, 0, none⟩ = some (.int .i64 x1) ∧ w'.cell? ⟨W.heap.size + 1, 0, none⟩ = some (.int .i64 y1)) (go_keep) ((first
    | (go_at_call 93; refine (cmpU64 _ _ _).mono ?_; rintro en w1 ⟨rfl, rfl⟩)
    | (go_at_call 85; refine (cmpInt _ _ _).mono ?_; rintro en w1 ⟨rfl, rfl⟩)
    | (go_at_call 84; refine (or3 _ (Lib.compareInt y3 x3) (Lib.compareInt x2 y2) (Lib.compareInt x1 y1) _ ?_ ?_ ?_).mono ?_; (go_simp); (go_simp); (go_simp); rintro en w1 ⟨rfl, rfl⟩)))
  all_goals go_wp2
  all_goals go_returns
  all_goals exact ⟨rfl, 1, _, by rw [alloc_eq_grow, alloc_eq_grow, alloc_eq_grow, grow_grow, grow_grow]; rfl⟩

set_option maxHeartbeats 2000000 in
theorem able1_walk (x1 x2 x3 y1 y2 y3 : Int) (W : World) :
    Calls Tryz.prog 83 #[.agg #[.int .i64 x1, .int .u32 x2, .int .i64 x3], .agg #[.int .i64 y1, .int .u32 y2, .int .i64 y3]] W fun en w' => en = .returned (.int .i64 (orI (Lib.compareInt x3 y3) (Lib.compareInt x1 y1))) ∧ ∃ q os', w' = grow (W.drewN q) os' := by
  go_enter Tryz.func83, Tryz.ntmps83
  go_wp2
  go_region_held3 (fun w' => w'.cell? ⟨W.heap.size + 1, 2, none⟩ = some (.int .i64 y3) ∧ w'.cell? ⟨W.heap.size, 2, none⟩ = some (.int .i64 x3) ∧ w'.cell? ⟨W.heap.size, 0, none⟩ = some (.int .i64 x1) ∧ w'.cell? ⟨W.heap.size + 1, 0, none⟩ = some (.int .i64 y1)) (go_keep) ((first
    | (go_at_call 85; refine (cmpInt _ _ _).mono ?_; rintro en w1 ⟨rfl, rfl⟩)
    | (go_at_call 84; refine (or2 _ (Lib.compareInt x3 y3) (Lib.compareInt x1 y1) _ ?_ ?_).mono ?_; (go_simp); (go_simp); rintro en w1 ⟨rfl, rfl⟩)))
  all_goals go_wp2
  all_goals go_returns
  all_goals exact ⟨rfl, _, _, by rw [alloc_eq_grow, alloc_eq_grow, alloc_eq_grow, grow_grow, grow_grow]; rfl⟩

theorem orI_zero (a b : Int) : orI a b < 0 ↔ a < 0 ∨ (a = 0 ∧ b < 0) := by unfold orI; split <;> omega
theorem cmp_lt (a b : Int) : Lib.compareInt a b < 0 ↔ a < b := by unfold Lib.compareInt; (repeat' split) <;> omega
theorem cmp_eq (a b : Int) : Lib.compareInt a b = 0 ↔ a = b := by unfold Lib.compareInt; (repeat' split) <;> omega

theorem ltSeat (x y : Int × Int × Int) : ltOf cmpSeat x y = true ↔ (y.2.2 < x.2.2 ∨ (y.2.2 = x.2.2 ∧ (x.2.1 < y.2.1 ∨ (x.2.1 = y.2.1 ∧ x.1 < y.1)))) := by
  simp only [ltOf, cmpSeat, decide_eq_true_eq, orI_zero, cmp_lt, cmp_eq]
theorem ltSite (x y : Int × Int × Int) : ltOf cmpSite x y = true ↔ (x.2.2 < y.2.2 ∨ (x.2.2 = y.2.2 ∧ x.1 < y.1)) := by
  simp only [ltOf, cmpSite, decide_eq_true_eq, orI_zero, cmp_lt, cmp_eq]
theorem swoSeat : SWO (ltOf cmpSeat) where
  irrefl x := by rw [← Bool.not_eq_true, ltSeat]; omega
  trans x y z h1 h2 := by rw [ltSeat] at *; omega
  ntrans x y z h1 h2 := by rw [← Bool.not_eq_true, ltSeat] at *; omega
theorem swoSite : SWO (ltOf cmpSite) where
  irrefl x := by rw [← Bool.not_eq_true, ltSite]; omega
  trans x y z h1 h2 := by rw [ltSite] at *; omega
  ntrans x y z h1 h2 := by rw [← Bool.not_eq_true, ltSite] at *; omega

theorem seatLays (blk off size : Nat) (w : World) : CmpLays Tryz.prog 92 #[] encSeat 3 cmpSeat blk off size w :=
  fun _ _ _ _ x y => seats1_walk x.1 x.2.1 x.2.2 y.1 y.2.1 y.2.2 _
theorem siteLays (blk off size : Nat) (w : World) : CmpLays Tryz.prog 83 #[] encSite 3 cmpSite blk off size w :=
  fun _ _ _ _ x y => able1_walk x.1 x.2.1 x.2.2 y.1 y.2.1 y.2.2 _

/-- The first of a sorted row: of the row, and none comes before it. -/
theorem sorted_head {α : Type} [Inhabited α] (lt : α → α → Bool) (hO : SWO lt) (d d' : Array α) (hp : PermIn 0 d.size d d') (hs : SortedIn lt 0 d.size d') (h0 : 0 < d.size) :
    d'.size = d.size ∧ d'[0]! ∈ d ∧ ∀ x ∈ d, lt x d'[0]! = false := by
  obtain ⟨h1, h2, h3⟩ := hp
  have hsz : d'.size = d.size := by first | exact h1 | exact h1.symm
  have h3' : d'.toList.Perm d.toList := by
    have := h3
    simp [← hsz, List.take_of_length_le] at this
    first | exact this | exact this.symm
  have hd0 : d'[0]! ∈ d'.toList := by
    rw [getElem!_pos d' 0 (by omega)]
    exact Array.getElem_mem_toList _
  refine ⟨hsz, by simpa using h3'.mem_iff.1 hd0, fun x hx => ?_⟩
  have hx' := h3'.mem_iff.2 (by simpa using hx)
  obtain ⟨i, hi, rfl⟩ := List.mem_iff_getElem.1 hx'
  have hi' : i < d'.size := by simpa using hi
  rcases Nat.eq_zero_or_pos i with rfl | hp
  · rw [getElem!_pos d' 0 (by omega)]; simpa using hO.irrefl _
  · have := hs 0 i (Nat.le_refl _) hp (by omega)
    rw [getElem!_pos d' i hi'] at this
    simpa using this
end Go.Proofs.YthahlimmmnmniaaGreatDoor
