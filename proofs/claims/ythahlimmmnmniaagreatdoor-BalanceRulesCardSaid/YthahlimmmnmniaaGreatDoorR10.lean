/- The siblings: New, Add, Report. The siblings: Add, Report: the table stays one. The reference's flow table: it returns, and touches its own blocks alone: time, find. -/
import Derived.Test.YthahlimmmnmniaaGreatDoorRows
import Derived.Deep.QuietTactic
import Derived.BigQuiet
import Derived.Handy
import Derived.Laws.Cover3
import Derived.Deep.RegionWith
import Derived.Test.YthahlimmmnmniaaGreatDoorR04
import Derived.Test.YthahlimmmnmniaaGreatDoorR09
namespace Go.Proofs.YthahlimmmnmniaaGreatDoor
open Go.RowKit Go.Fw

/-- A site: its number, address, cost; a report: how much, until when. -/
def siteVal (x : Int × Int × Int) : Value := .agg #[.int .i64 x.1, .int .u32 x.2.1, .int .i64 x.2.2]
def repVal (x : Int × Int) : Value := .agg #[.int .i64 x.1, .int .i64 x.2]

structure SibT where
  sites : List (Int × (Int × Int × Int))
  reps : List (Int × (Int × Int))

structure SibAt (w : World) (s sm rm : Nat) (T : SibT) : Prop where
  tab : w.heap[s]? = some (.cells #[.map (some sm), .map (some rm)] 126 (0, 0))
  sites : HasMap w sm (Value.int .i64) siteVal T.sites
  reps : HasMap w rm (Value.int .i64) repVal T.reps
  ne1 : s ≠ sm
  ne2 : s ≠ rm
  ne3 : sm ≠ rm

/-- A site lies under its own number. -/
def SOk (T : SibT) : Prop := T.sites.length ≤ 8 ∧ ∀ q ∈ T.sites, q.2.1 = q.1 ∧ 0 ≤ q.1 ∧ q.1 ≤ 255

theorem sib_cells {w : World} {s sm rm : Nat} (h : w.heap[s]? = some (.cells #[.map (some sm), .map (some rm)] 126 (0, 0))) :
    w.cell? ⟨s, 0, none⟩ = some (.map (some sm)) ∧ w.cell? ⟨s, 1, none⟩ = some (.map (some rm)) := ⟨cell_at h 0 rfl, cell_at h 1 rfl⟩
theorem SibAt.keep {w w' : World} {s sm rm : Nat} {T : SibT} (h : SibAt w s sm rm T) (h1 : w'.heap[s]? = w.heap[s]?) (h2 : w'.heap[sm]? = w.heap[sm]?) (h3 : w'.heap[rm]? = w.heap[rm]?) : SibAt w' s sm rm T :=
  ⟨h1.trans h.tab, h.sites.of_block h2, h.reps.of_block h3, h.ne1, h.ne2, h.ne3⟩
theorem SibAt.fr {w w' : World} {s sm rm : Nat} {T : SibT} {S : List Nat} (h : SibAt w s sm rm T) (hf : Fr S w w') (h1 : s ∉ S) (h2 : sm ∉ S) (h3 : rm ∉ S) : SibAt w' s sm rm T :=
  h.keep (hf.block _ (lt_of h.tab) h1) (hf.block _ h.sites.lt h2) (hf.block _ h.reps.lt h3)

theorem zero_site (w : World) : (zeroValue 62).run Tryz.prog w = .ok (.agg #[.int .i64 0, .int .u32 0, .int .i64 0]) w := by kernel_rfl
theorem zero_rep (w : World) : (zeroValue 142).run Tryz.prog w = .ok (.agg #[.int .i64 0, .int .i64 0]) w := by kernel_rfl
theorem int_law' : KeyLaw Tryz.prog 3 (Value.int .i64) := int_law Tryz.underlying3

theorem look_site {l : List (Int × (Int × Int × Int))} {mb : Nat} (k : Int) (ok : Bool) (W : World) (h : HasMap W mb (Value.int .i64) siteVal l) :
    (Instr.lookup 123 (.map (some mb)) (.int .i64 k) ok).run Tryz.prog W = .ok (if ok then .tuple #[((aget l k).map siteVal).getD (.agg #[.int .i64 0, .int .u32 0, .int .i64 0]), .bool (aget l k).isSome] else ((aget l k).map siteVal).getD (.agg #[.int .i64 0, .int .u32 0, .int .i64 0])) W :=
  HasMap.lookup int_law' Tryz.underlying123 zero_site k h ok
theorem look_rep {l : List (Int × (Int × Int))} {mb : Nat} (k : Int) (ok : Bool) (W : World) (h : HasMap W mb (Value.int .i64) repVal l) :
    (Instr.lookup 124 (.map (some mb)) (.int .i64 k) ok).run Tryz.prog W = .ok (if ok then .tuple #[((aget l k).map repVal).getD (.agg #[.int .i64 0, .int .i64 0]), .bool (aget l k).isSome] else ((aget l k).map repVal).getD (.agg #[.int .i64 0, .int .i64 0])) W :=
  HasMap.lookup int_law' Tryz.underlying124 zero_rep k h ok
theorem put_site {l : List (Int × (Int × Int × Int))} {mb : Nat} (k : Int) (v : Value) (W : World) (h : HasMap W mb (Value.int .i64) siteVal l) :
    (Instr.mapUpdate 123 (.map (some mb)) (.int .i64 k) v).run Tryz.prog W = .ok () (W.mput mb (.int .i64 k) v) := HasMap.update int_law' Tryz.underlying123 k v h
theorem put_rep {l : List (Int × (Int × Int))} {mb : Nat} (k : Int) (v : Value) (W : World) (h : HasMap W mb (Value.int .i64) repVal l) :
    (Instr.mapUpdate 124 (.map (some mb)) (.int .i64 k) v).run Tryz.prog W = .ok () (W.mput mb (.int .i64 k) v) := HasMap.update int_law' Tryz.underlying124 k v h
theorem len_site {l : List (Int × (Int × Int × Int))} {mb : Nat} (rt : TypeId) (W : World) (h : HasMap W mb (Value.int .i64) siteVal l) :
    (Builtin.len_ #[123] rt #[.map (some mb)]).run Tryz.prog W = .ok (.int .i64 l.length) W := HasMap.len Tryz.underlying123 h rfl

set_option maxHeartbeats 400000 in
theorem smade_walk (s sm : Nat) (w : World) (h1 : w.cell? ⟨s,0,none⟩ = some (.map (some sm))) :
    Calls Tryz.prog 66 #[.pointer (some ⟨s,0,none⟩)] w fun e w' => e = .returned (.bool true) ∧ w = w' := by
  have hn := fun (W : World) => run_neq_map_nil W 123 3 62 (some sm) Tryz.underlying123
  simp only [Option.isNone_some, Bool.not_false] at hn
  go_enter Tryz.func66, Tryz.ntmps66
  go_wp2
  go_ret
  exact ⟨rfl, rfl⟩

def inB (n m : Int) : Bool := decide (0 ≤ n ∧ n ≤ m)
theorem sin_any (n m : Int) (w : World) : Calls Tryz.prog 67 #[.int .i64 n, .int .i64 m] w fun en w' => en = .returned (.bool (inB n m)) ∧ w = w' := by
  by_cases h1 : n < 0
  · have hb : inB n m = false := by unfold inB; simp; omega
    rw [hb]
    clear hb
    go_enter Tryz.func67, Tryz.ntmps67
    go_wp2
    go_ret
    exact ⟨rfl, rfl⟩
  · have h2 : 0 ≤ n := by omega
    have hb : inB n m = decide (n ≤ m) := by unfold inB; simp [h2]
    rw [hb]
    clear hb
    go_enter Tryz.func67, Tryz.ntmps67
    go_wp2
    go_ret
    exact ⟨rfl, rfl⟩

def NewSibPost (w : World) (en : Ending) (w' : World) : Prop :=
  ∃ s sm rm, en = .returned (.pointer (some ⟨s, 0, none⟩)) ∧ SibAt w' s sm rm ⟨[], []⟩ ∧ w.heap.size ≤ s ∧ w.heap.size ≤ sm ∧ w.heap.size ≤ rm ∧ Fr [] w w'

set_option maxHeartbeats 400000 in
theorem new_sib (w : World) : Calls Tryz.prog 24 #[] w (NewSibPost w) := by
  have hmm := @run_makeMap Tryz.prog
  go_enter Tryz.func24, Tryz.ntmps24
  go_wp2
  all_goals go_returns
  refine ⟨w.heap.size + 1 + 1, w.heap.size, w.heap.size + 1, rfl, ⟨?_, ?_, ?_, by omega, by omega, by omega⟩, by omega, by omega, by omega, ?_⟩
  · simp only [heap_alloc_if, World.size_alloc]; simp
  · rw [hasMap_alloc_cells]
    refine (hasMap_new w _ _).of_block (heap_old _ _ (by simp))
  · rw [hasMap_alloc_cells]
    have hh := hasMap_new (w.alloc (.map #[] 0)) (Value.int .i64) repVal
    simpa only [World.size_alloc] using hh
  · (repeat (first | (with_reducible exact Fr.refl _ _) | (with_reducible assumption) | (with_reducible refine Fr.drew ?_) | (with_reducible refine Fr.drewN ?_ _) | (with_reducible refine Fr.alloc ?_ _) | (with_reducible refine Fr.mput ?_ _ _ _ (.inl (by simp))) | (with_reducible refine Fr.mdel ?_ _ _ (.inl (by simp))) | (with_reducible refine Fr.set ?_ _ _ (.inr (by first | omega | (dsimp only; omega)))) | (with_reducible refine Fr.set ?_ _ _ (.inl (by simp)))))
end Go.Proofs.YthahlimmmnmniaaGreatDoor

namespace Go.Proofs.YthahlimmmnmniaaGreatDoor
open Go.RowKit Go.Fw

def SibPost (w : World) (s sm rm : Nat) (en : Ending) (w' : World) : Prop :=
  (∃ e : Int, en = .returned (.int .i64 e)) ∧ (∃ T', SOk T' ∧ SibAt w' s sm rm T') ∧ Fr [sm, rm] w w'

theorem SibAt.put_site {W : World} {s sm rm : Nat} {T : SibT} (h : SibAt W s sm rm T) (id : Int) (x : Int × Int × Int) : SibAt (W.mput sm (.int .i64 id) (siteVal x)) s sm rm ⟨aput T.sites id x, T.reps⟩ :=
  ⟨(heap_mput_ne _ _ _ _ h.ne1).trans h.tab, HasMap.put (ek := Value.int .i64) (ev := siteVal) (fun a b h => by simpa using h) id x h.sites, h.reps.of_block (heap_mput_ne _ _ _ _ (Ne.symm h.ne3)), h.ne1, h.ne2, h.ne3⟩
theorem SibAt.put_rep {W : World} {s sm rm : Nat} {T : SibT} (h : SibAt W s sm rm T) (id : Int) (x : Int × Int) : SibAt (W.mput rm (.int .i64 id) (repVal x)) s sm rm ⟨T.sites, aput T.reps id x⟩ :=
  ⟨(heap_mput_ne _ _ _ _ h.ne2).trans h.tab, h.sites.of_block (heap_mput_ne _ _ _ _ h.ne3), HasMap.put (ek := Value.int .i64) (ev := repVal) (fun a b h => by simpa using h) id x h.reps, h.ne1, h.ne2, h.ne3⟩

set_option maxHeartbeats 800000 in
theorem sadd_any {w : World} {s sm rm : Nat} {T : SibT} (h : SibAt w s sm rm T) (ok : SOk T) (x : Int × Int × Int) :
    Calls Tryz.prog 31 #[.pointer (some ⟨s, 0, none⟩), .agg #[.int .i64 x.1, .int .u32 x.2.1, .int .i64 x.2.2]] w (SibPost w s sm rm) := by
  obtain ⟨id, addr, cost⟩ := x
  simp only
  have hm := h.sites
  obtain ⟨c0, c1⟩ := sib_cells h.tab
  obtain ⟨pl0, pl1, pl2, pl3, _, _⟩ := lts (lt_of h.tab)
  have same : ∀ (e : Int) W, Fr [] w W → SibPost w s sm rm (.returned (.int .i64 e)) W := fun e W hW => ⟨⟨_, rfl⟩, ⟨T, ok, h.fr hW (by simp) (by simp) (by simp)⟩, hW.mono (by simp)⟩
  have SAME := Lib.hid same
  clear same
  have lk := fun (W : World) (hW : HasMap W sm (Value.int .i64) siteVal T.sites) => look_site id true W hW
  have hv : ∃ a b c : Int, ((aget T.sites id).map siteVal).getD (.agg #[.int .i64 0, .int .u32 0, .int .i64 0]) = .agg #[.int .i64 a, .int .u32 b, .int .i64 c] := by
    cases aget T.sites id with
    | none => exact ⟨0, 0, 0, rfl⟩
    | some m => exact ⟨_, _, _, rfl⟩
  obtain ⟨a, b, c, hv⟩ := hv
  simp only [hv, if_true] at lk
  clear hv
  obtain ⟨th, hth⟩ : ∃ th, (aget T.sites id).isSome = th := ⟨_, rfl⟩
  rw [hth] at lk
  have ln := fun (rt : TypeId) (W : World) (hW : HasMap W sm (Value.int .i64) siteVal T.sites) => len_site rt W hW
  obtain ⟨q, hq⟩ : ∃ q, T.sites.length = q := ⟨_, rfl⟩
  simp only [hq] at ln
  have HT := Lib.hid (And.intro hth (And.intro hq (And.intro ok h)))
  clear hth hq ok
  obtain ⟨b1, hb1⟩ : ∃ b, inB id 255 = b := ⟨_, rfl⟩
  obtain ⟨b2, hb2⟩ : ∃ b, inB cost 1000000 = b := ⟨_, rfl⟩
  have E1 := Lib.hid hb1
  have E2 := Lib.hid hb2
  clear hb1 hb2
  cases b1 with
  | false =>
    go_enter Tryz.func31, Tryz.ntmps31
    go_wp2_with (first
    | (go_at_call 66; refine (smade_walk s sm _ ?_).mono ?_; (go_simp); rintro en w1 ⟨rfl, rfl⟩)
    | (go_at_call 67; refine (sin_any _ _ _).mono ?_; (try rw [E1.out]); (try rw [E2.out]); rintro en w1 ⟨rfl, rfl⟩))
    go_region
    all_goals go_wp2_with (first
    | (go_at_call 66; refine (smade_walk s sm _ ?_).mono ?_; (go_simp); rintro en w1 ⟨rfl, rfl⟩)
    | (go_at_call 67; refine (sin_any _ _ _).mono ?_; (try rw [E1.out]); (try rw [E2.out]); rintro en w1 ⟨rfl, rfl⟩))
    all_goals go_returns
    all_goals exact SAME.out _ _ (by (repeat (first | (with_reducible exact Fr.refl _ _) | (with_reducible assumption) | (with_reducible refine Fr.drew ?_) | (with_reducible refine Fr.drewN ?_ _) | (with_reducible refine Fr.alloc ?_ _) | (with_reducible refine Fr.mput ?_ _ _ _ (.inl (by simp))) | (with_reducible refine Fr.mdel ?_ _ _ (.inl (by simp))) | (with_reducible refine Fr.set ?_ _ _ (.inr (by first | omega | (dsimp only; omega)))) | (with_reducible refine Fr.set ?_ _ _ (.inl (by simp))))))
  | true =>
    by_cases h2 : addr = 0
    · subst h2
      go_enter Tryz.func31, Tryz.ntmps31
      go_wp2_with (first
    | (go_at_call 66; refine (smade_walk s sm _ ?_).mono ?_; (go_simp); rintro en w1 ⟨rfl, rfl⟩)
    | (go_at_call 67; refine (sin_any _ _ _).mono ?_; (try rw [E1.out]); (try rw [E2.out]); rintro en w1 ⟨rfl, rfl⟩))
      go_region
      all_goals go_wp2_with (first
    | (go_at_call 66; refine (smade_walk s sm _ ?_).mono ?_; (go_simp); rintro en w1 ⟨rfl, rfl⟩)
    | (go_at_call 67; refine (sin_any _ _ _).mono ?_; (try rw [E1.out]); (try rw [E2.out]); rintro en w1 ⟨rfl, rfl⟩))
      all_goals go_returns
      all_goals exact SAME.out _ _ (by (repeat (first | (with_reducible exact Fr.refl _ _) | (with_reducible assumption) | (with_reducible refine Fr.drew ?_) | (with_reducible refine Fr.drewN ?_ _) | (with_reducible refine Fr.alloc ?_ _) | (with_reducible refine Fr.mput ?_ _ _ _ (.inl (by simp))) | (with_reducible refine Fr.mdel ?_ _ _ (.inl (by simp))) | (with_reducible refine Fr.set ?_ _ _ (.inr (by first | omega | (dsimp only; omega)))) | (with_reducible refine Fr.set ?_ _ _ (.inl (by simp))))))
    · have h2' : ((addr : Int) == 0) = false := beq_eq_false_iff_ne.2 h2
      cases b2 with
      | false =>
        go_enter Tryz.func31, Tryz.ntmps31
        go_wp2_with (first
    | (go_at_call 66; refine (smade_walk s sm _ ?_).mono ?_; (go_simp); rintro en w1 ⟨rfl, rfl⟩)
    | (go_at_call 67; refine (sin_any _ _ _).mono ?_; (try rw [E1.out]); (try rw [E2.out]); rintro en w1 ⟨rfl, rfl⟩))
        go_region
        all_goals go_wp2_with (first
    | (go_at_call 66; refine (smade_walk s sm _ ?_).mono ?_; (go_simp); rintro en w1 ⟨rfl, rfl⟩)
    | (go_at_call 67; refine (sin_any _ _ _).mono ?_; (try rw [E1.out]); (try rw [E2.out]); rintro en w1 ⟨rfl, rfl⟩))
        all_goals go_returns
        all_goals exact SAME.out _ _ (by (repeat (first | (with_reducible exact Fr.refl _ _) | (with_reducible assumption) | (with_reducible refine Fr.drew ?_) | (with_reducible refine Fr.drewN ?_ _) | (with_reducible refine Fr.alloc ?_ _) | (with_reducible refine Fr.mput ?_ _ _ _ (.inl (by simp))) | (with_reducible refine Fr.mdel ?_ _ _ (.inl (by simp))) | (with_reducible refine Fr.set ?_ _ _ (.inr (by first | omega | (dsimp only; omega)))) | (with_reducible refine Fr.set ?_ _ _ (.inl (by simp))))))
      | true =>
        cases th with
        | true =>
          go_enter Tryz.func31, Tryz.ntmps31
          go_wp2_with (first
    | (go_at_call 66; refine (smade_walk s sm _ ?_).mono ?_; (go_simp); rintro en w1 ⟨rfl, rfl⟩)
    | (go_at_call 67; refine (sin_any _ _ _).mono ?_; (try rw [E1.out]); (try rw [E2.out]); rintro en w1 ⟨rfl, rfl⟩))
          go_region
          all_goals go_wp2_with (first
    | (go_at_call 66; refine (smade_walk s sm _ ?_).mono ?_; (go_simp); rintro en w1 ⟨rfl, rfl⟩)
    | (go_at_call 67; refine (sin_any _ _ _).mono ?_; (try rw [E1.out]); (try rw [E2.out]); rintro en w1 ⟨rfl, rfl⟩))
          all_goals go_returns
          all_goals exact SAME.out _ _ (by (repeat (first | (with_reducible exact Fr.refl _ _) | (with_reducible assumption) | (with_reducible refine Fr.drew ?_) | (with_reducible refine Fr.drewN ?_ _) | (with_reducible refine Fr.alloc ?_ _) | (with_reducible refine Fr.mput ?_ _ _ _ (.inl (by simp))) | (with_reducible refine Fr.mdel ?_ _ _ (.inl (by simp))) | (with_reducible refine Fr.set ?_ _ _ (.inr (by first | omega | (dsimp only; omega)))) | (with_reducible refine Fr.set ?_ _ _ (.inl (by simp))))))
        | false =>
          by_cases hl : 8 ≤ q
          · go_enter Tryz.func31, Tryz.ntmps31
            go_wp2_with (first
    | (go_at_call 66; refine (smade_walk s sm _ ?_).mono ?_; (go_simp); rintro en w1 ⟨rfl, rfl⟩)
    | (go_at_call 67; refine (sin_any _ _ _).mono ?_; (try rw [E1.out]); (try rw [E2.out]); rintro en w1 ⟨rfl, rfl⟩))
            go_region
            all_goals go_wp2_with (first
    | (go_at_call 66; refine (smade_walk s sm _ ?_).mono ?_; (go_simp); rintro en w1 ⟨rfl, rfl⟩)
    | (go_at_call 67; refine (sin_any _ _ _).mono ?_; (try rw [E1.out]); (try rw [E2.out]); rintro en w1 ⟨rfl, rfl⟩))
            all_goals go_returns
            all_goals exact SAME.out _ _ (by (repeat (first | (with_reducible exact Fr.refl _ _) | (with_reducible assumption) | (with_reducible refine Fr.drew ?_) | (with_reducible refine Fr.drewN ?_ _) | (with_reducible refine Fr.alloc ?_ _) | (with_reducible refine Fr.mput ?_ _ _ _ (.inl (by simp))) | (with_reducible refine Fr.mdel ?_ _ _ (.inl (by simp))) | (with_reducible refine Fr.set ?_ _ _ (.inr (by first | omega | (dsimp only; omega)))) | (with_reducible refine Fr.set ?_ _ _ (.inl (by simp))))))
          · have ups := fun (v : Value) (W : World) (hW : HasMap W sm (Value.int .i64) siteVal T.sites) => put_site id v W hW
            go_enter Tryz.func31, Tryz.ntmps31
            go_wp2_with (first
    | (go_at_call 66; refine (smade_walk s sm _ ?_).mono ?_; (go_simp); rintro en w1 ⟨rfl, rfl⟩)
    | (go_at_call 67; refine (sin_any _ _ _).mono ?_; (try rw [E1.out]); (try rw [E2.out]); rintro en w1 ⟨rfl, rfl⟩))
            go_region
            all_goals go_wp2_with (first
    | (go_at_call 66; refine (smade_walk s sm _ ?_).mono ?_; (go_simp); rintro en w1 ⟨rfl, rfl⟩)
    | (go_at_call 67; refine (sin_any _ _ _).mono ?_; (try rw [E1.out]); (try rw [E2.out]); rintro en w1 ⟨rfl, rfl⟩))
            all_goals go_region
            all_goals go_wp2
            all_goals go_returns
            all_goals obtain ⟨hth, hq, ok, hh⟩ := HT.out
            all_goals have hi := E1.out
            all_goals simp only [inB, decide_eq_true_eq] at hi
            all_goals refine ⟨⟨_, rfl⟩, ⟨⟨aput T.sites id (id, addr, cost), T.reps⟩, ⟨?_, fun z hz => ?_⟩, (hh.fr (S := []) ?_ (by simp) (by simp) (by simp)).put_site id (id, addr, cost)⟩, ?_⟩
            · have hk : id ∉ T.sites.map Prod.fst := by
                rw [← aget_none]
                cases hg : aget T.sites id with
                | none => rfl
                | some m => rw [hg] at hth; cases hth
              simp only [aput, if_neg hk, List.length_append, List.length_singleton]
              omega
            · rcases mem_aput.1 hz with rfl | ⟨h1, _⟩
              · exact ⟨rfl, hi.1, hi.2⟩
              · exact ok.2 z h1
            · (repeat (first | (with_reducible exact Fr.refl _ _) | (with_reducible assumption) | (with_reducible refine Fr.drew ?_) | (with_reducible refine Fr.drewN ?_ _) | (with_reducible refine Fr.alloc ?_ _) | (with_reducible refine Fr.mput ?_ _ _ _ (.inl (by simp))) | (with_reducible refine Fr.mdel ?_ _ _ (.inl (by simp))) | (with_reducible refine Fr.set ?_ _ _ (.inr (by first | omega | (dsimp only; omega)))) | (with_reducible refine Fr.set ?_ _ _ (.inl (by simp)))))
            · (repeat (first | (with_reducible exact Fr.refl _ _) | (with_reducible assumption) | (with_reducible refine Fr.drew ?_) | (with_reducible refine Fr.drewN ?_ _) | (with_reducible refine Fr.alloc ?_ _) | (with_reducible refine Fr.mput ?_ _ _ _ (.inl (by simp))) | (with_reducible refine Fr.mdel ?_ _ _ (.inl (by simp))) | (with_reducible refine Fr.set ?_ _ _ (.inr (by first | omega | (dsimp only; omega)))) | (with_reducible refine Fr.set ?_ _ _ (.inl (by simp)))))

set_option maxHeartbeats 800000 in
theorem sreport_any {w : World} {s sm rm : Nat} {T : SibT} (h : SibAt w s sm rm T) (ok : SOk T) (id cap til : Int) :
    Calls Tryz.prog 33 #[.pointer (some ⟨s, 0, none⟩), .int .i64 id, .int .i64 cap, .int .i64 til] w (SibPost w s sm rm) := by
  have hm := h.sites
  have hr := h.reps
  obtain ⟨c0, c1⟩ := sib_cells h.tab
  obtain ⟨pl0, pl1, pl2, pl3, _, _⟩ := lts (lt_of h.tab)
  have same : ∀ (e : Int) W, Fr [] w W → SibPost w s sm rm (.returned (.int .i64 e)) W := fun e W hW => ⟨⟨_, rfl⟩, ⟨T, ok, h.fr hW (by simp) (by simp) (by simp)⟩, hW.mono (by simp)⟩
  have SAME := Lib.hid same
  clear same
  have lk := fun (W : World) (hW : HasMap W sm (Value.int .i64) siteVal T.sites) => look_site id true W hW
  have hv : ∃ a b c : Int, ((aget T.sites id).map siteVal).getD (.agg #[.int .i64 0, .int .u32 0, .int .i64 0]) = .agg #[.int .i64 a, .int .u32 b, .int .i64 c] := by
    cases aget T.sites id with
    | none => exact ⟨0, 0, 0, rfl⟩
    | some m => exact ⟨_, _, _, rfl⟩
  obtain ⟨a, b, c, hv⟩ := hv
  simp only [hv, if_true] at lk
  clear hv
  obtain ⟨th, hth⟩ : ∃ th, (aget T.sites id).isSome = th := ⟨_, rfl⟩
  rw [hth] at lk
  have HT := Lib.hid (And.intro hth (And.intro ok h))
  clear hth ok
  obtain ⟨b1, hb1⟩ : ∃ b, inB cap 1000000 = b := ⟨_, rfl⟩
  obtain ⟨b2, hb2⟩ : ∃ b, inB til 1099511627776 = b := ⟨_, rfl⟩
  have E1 := Lib.hid hb1
  have E2 := Lib.hid hb2
  clear hb1 hb2
  cases th with
  | false =>
    go_enter Tryz.func33, Tryz.ntmps33
    go_wp2_with (first
    | (go_at_call 66; refine (smade_walk s sm _ ?_).mono ?_; (go_simp); rintro en w1 ⟨rfl, rfl⟩)
    | (go_at_call 67; refine (sin_any _ _ _).mono ?_; (try rw [E1.out]); (try rw [E2.out]); rintro en w1 ⟨rfl, rfl⟩))
    all_goals go_returns
    all_goals exact SAME.out _ _ (by (repeat (first | (with_reducible exact Fr.refl _ _) | (with_reducible assumption) | (with_reducible refine Fr.drew ?_) | (with_reducible refine Fr.drewN ?_ _) | (with_reducible refine Fr.alloc ?_ _) | (with_reducible refine Fr.mput ?_ _ _ _ (.inl (by simp))) | (with_reducible refine Fr.mdel ?_ _ _ (.inl (by simp))) | (with_reducible refine Fr.set ?_ _ _ (.inr (by first | omega | (dsimp only; omega)))) | (with_reducible refine Fr.set ?_ _ _ (.inl (by simp))))))
  | true =>
    cases b1 with
    | false =>
      go_enter Tryz.func33, Tryz.ntmps33
      go_wp2_with (first
    | (go_at_call 66; refine (smade_walk s sm _ ?_).mono ?_; (go_simp); rintro en w1 ⟨rfl, rfl⟩)
    | (go_at_call 67; refine (sin_any _ _ _).mono ?_; (try rw [E1.out]); (try rw [E2.out]); rintro en w1 ⟨rfl, rfl⟩))
      all_goals go_returns
      all_goals exact SAME.out _ _ (by (repeat (first | (with_reducible exact Fr.refl _ _) | (with_reducible assumption) | (with_reducible refine Fr.drew ?_) | (with_reducible refine Fr.drewN ?_ _) | (with_reducible refine Fr.alloc ?_ _) | (with_reducible refine Fr.mput ?_ _ _ _ (.inl (by simp))) | (with_reducible refine Fr.mdel ?_ _ _ (.inl (by simp))) | (with_reducible refine Fr.set ?_ _ _ (.inr (by first | omega | (dsimp only; omega)))) | (with_reducible refine Fr.set ?_ _ _ (.inl (by simp))))))
    | true =>
      cases b2 with
      | false =>
        go_enter Tryz.func33, Tryz.ntmps33
        go_wp2_with (first
    | (go_at_call 66; refine (smade_walk s sm _ ?_).mono ?_; (go_simp); rintro en w1 ⟨rfl, rfl⟩)
    | (go_at_call 67; refine (sin_any _ _ _).mono ?_; (try rw [E1.out]); (try rw [E2.out]); rintro en w1 ⟨rfl, rfl⟩))
        all_goals go_returns
        all_goals exact SAME.out _ _ (by (repeat (first | (with_reducible exact Fr.refl _ _) | (with_reducible assumption) | (with_reducible refine Fr.drew ?_) | (with_reducible refine Fr.drewN ?_ _) | (with_reducible refine Fr.alloc ?_ _) | (with_reducible refine Fr.mput ?_ _ _ _ (.inl (by simp))) | (with_reducible refine Fr.mdel ?_ _ _ (.inl (by simp))) | (with_reducible refine Fr.set ?_ _ _ (.inr (by first | omega | (dsimp only; omega)))) | (with_reducible refine Fr.set ?_ _ _ (.inl (by simp))))))
      | true =>
        have ups := fun (v : Value) (W : World) (hW : HasMap W rm (Value.int .i64) repVal T.reps) => put_rep id v W hW
        go_enter Tryz.func33, Tryz.ntmps33
        go_wp2_with (first
    | (go_at_call 66; refine (smade_walk s sm _ ?_).mono ?_; (go_simp); rintro en w1 ⟨rfl, rfl⟩)
    | (go_at_call 67; refine (sin_any _ _ _).mono ?_; (try rw [E1.out]); (try rw [E2.out]); rintro en w1 ⟨rfl, rfl⟩))
        all_goals go_returns
        all_goals obtain ⟨hth, ok, hh⟩ := HT.out
        all_goals refine ⟨⟨_, rfl⟩, ⟨⟨T.sites, aput T.reps id (cap, til)⟩, ok, (hh.fr (S := []) ?_ (by simp) (by simp) (by simp)).put_rep id (cap, til)⟩, ?_⟩
        · (repeat (first | (with_reducible exact Fr.refl _ _) | (with_reducible assumption) | (with_reducible refine Fr.drew ?_) | (with_reducible refine Fr.drewN ?_ _) | (with_reducible refine Fr.alloc ?_ _) | (with_reducible refine Fr.mput ?_ _ _ _ (.inl (by simp))) | (with_reducible refine Fr.mdel ?_ _ _ (.inl (by simp))) | (with_reducible refine Fr.set ?_ _ _ (.inr (by first | omega | (dsimp only; omega)))) | (with_reducible refine Fr.set ?_ _ _ (.inl (by simp)))))
        · (repeat (first | (with_reducible exact Fr.refl _ _) | (with_reducible assumption) | (with_reducible refine Fr.drew ?_) | (with_reducible refine Fr.drewN ?_ _) | (with_reducible refine Fr.alloc ?_ _) | (with_reducible refine Fr.mput ?_ _ _ _ (.inl (by simp))) | (with_reducible refine Fr.mdel ?_ _ _ (.inl (by simp))) | (with_reducible refine Fr.set ?_ _ _ (.inr (by first | omega | (dsimp only; omega)))) | (with_reducible refine Fr.set ?_ _ _ (.inl (by simp)))))
end Go.Proofs.YthahlimmmnmniaaGreatDoor

namespace Go.Proofs.YthahlimmmnmniaaGreatDoor
open Go.RowKit Go.Fw

def ucells (e : Ent) : List Value := [.int .i64 e.flow.proto, .int .u32 e.flow.src, .int .u32 e.flow.dst, .int .i64 e.flow.sport, .int .i64 e.flow.dport, .int .i64 e.backend, .int .i64 e.last]

structure UAt (w : World) (u : Nat) (v : Value) (l : List Ent) : Prop where
  tab : ∃ now came went : Int, w.heap[u]? = some (.cells #[.int .i64 20, .int .i64 100, .int .i64 now, v, .int .i64 came, .int .i64 went] 129 (0, 0))
  row : w.ownsRow (u + 1) 90 7 v l.length (l.flatMap ucells)
  len : l.length ≤ 20

/-- Its own blocks. -/
def uown (u : Nat) (v : Value) : List Nat := u :: v.ownBlock.toList

theorem UAt.fr {w w' : World} {u : Nat} {v : Value} {l : List Ent} {S : List Nat} (h : UAt w u v l) (hf : Fr S w w') (hS : ∀ k ∈ uown u v, k ∉ S) : UAt w' u v l := by
  obtain ⟨a, b, c, ht⟩ := h.tab
  refine ⟨⟨a, b, c, hf.keep ht (hS u (by simp [uown]))⟩, ⟨h.row.1, ?_⟩, h.len⟩
  rcases h.row.2 with h1 | ⟨g, cap, cur, rfl, hb, hg, r⟩
  · exact .inl h1
  · exact .inr ⟨g, cap, cur, rfl, hb, hf.keep hg (hS g (by simp [uown, Value.ownBlock])), r⟩
theorem UAt.lt {w : World} {u : Nat} {v : Value} {l : List Ent} (h : UAt w u v l) : ∀ k ∈ uown u v, k < w.heap.size := by
  intro k hk
  obtain ⟨a, b, c, ht⟩ := h.tab
  rcases List.mem_cons.1 hk with rfl | hk
  · exact lt_of ht
  · exact own_lt h.row k (by simpa using hk)

def FindPost (l : List Ent) (w : World) (en : Ending) (w' : World) : Prop :=
  ∃ r : Int, en = .returned (.int .i64 r) ∧ -1 ≤ r ∧ r < l.length ∧ Fr [] w w'

def FindRel (w1 : World) (n : Nat) (i : Value) (wr : World) : Prop := ∃ k : Nat, k ≤ n ∧ i = .int .i64 k ∧ Fr [] w1 wr

set_option maxHeartbeats 2000000 in
theorem ufind_any {w : World} {u : Nat} {v : Value} {l : List Ent} (h : UAt w u v l) (f : Flow) :
    Calls Tryz.prog 74 #[.pointer (some ⟨u, 0, none⟩), .agg #[.int .i64 f.proto, .int .u32 f.src, .int .u32 f.dst, .int .i64 f.sport, .int .i64 f.dport]] w (FindPost l w) := by
  obtain ⟨a, b, c, ht⟩ := h.tab
  have c3 := cell_at ht 3 (v := v) rfl
  obtain ⟨p0, p1, p2, p3, _, _⟩ := lts (lt_of ht)
  obtain ⟨ad, cp, rfl, hnc, hcells⟩ := own_form h.row
  obtain ⟨n, hn⟩ : ∃ n, l.length = n := ⟨_, rfl⟩
  have hlen := h.len
  simp only [hn] at c3 hcells hnc hlen ⊢
  unfold FindPost
  simp only [hn]
  have HC := Lib.hid (And.intro hn (And.intro hnc hcells))
  clear hn hnc hcells ht h
  go_enter Tryz.func74, Tryz.ntmps74
  go_wp2
  go_loopw [12] (fun i wr => FindRel (w.alloc (.cells #[.int .i64 f.proto, .int .u32 f.src, .int .u32 f.dst, .int .i64 f.sport, .int .i64 f.dport] 31)) n i wr) (fun i _ => n - (intOf i).toNat)
  case atStart => exact ⟨0, Nat.zero_le _, rfl, Fr.refl _ _⟩
  case round =>
    obtain ⟨j, hj, rfl, hfr⟩ := hrel
    obtain ⟨hn, hnc, hcells⟩ := HC.out
    have hF := Fr.trans (S := []) (a := w) (by (repeat (first | (with_reducible exact Fr.refl _ _) | (with_reducible assumption) | (with_reducible refine Fr.drew ?_) | (with_reducible refine Fr.drewN ?_ _) | (with_reducible refine Fr.alloc ?_ _) | (with_reducible refine Fr.mput ?_ _ _ _ (.inl (by simp))) | (with_reducible refine Fr.mdel ?_ _ _ (.inl (by simp))) | (with_reducible refine Fr.set ?_ _ _ (.inr (by first | omega | (dsimp only; omega)))) | (with_reducible refine Fr.set ?_ _ _ (.inl (by simp)))))) hfr (by simp)
    have hfl := hfr.keep (k := w.heap.size) (o := .cells #[.int .i64 f.proto, .int .u32 f.src, .int .u32 f.dst, .int .i64 f.sport, .int .i64 f.dport] 31 (0, 0)) (heap_new w _) (by simp)
    obtain ⟨v0, v1, v2, v3, v4⟩ := flow_cells hfl
    have hfs := lt_of hfl
    by_cases hlt : j < n
    · obtain ⟨g, rfl, hgb, hg, hcell⟩ := hcells (by omega)
      obtain ⟨e, he⟩ : ∃ e, l[j]? = some e := ⟨l[j], List.getElem?_eq_getElem (by omega)⟩
      have cc := fun (t : Nat) (u : Value) (hu : (ucells e)[t]? = some u) => (hF.cell (a := ⟨g, j * 7 + t, none⟩) hg (by simp)).trans (hcell _ _ (flat_at (k := 7) (fun _ => rfl) he hu))
      have k0 : wr.cell? ⟨g, j * 7, none⟩ = some (.int .i64 e.flow.proto) := cc 0 _ rfl
      have k1 := cc 1 _ rfl
      have k2 := cc 2 _ rfl
      have k3 := cc 3 _ rfl
      have k4 := cc 4 _ rfl
      have k5 := cc 5 _ rfl
      have k6 := cc 6 _ rfl
      have hg' : g < wr.heap.size := Nat.lt_of_lt_of_le hg hF.size
      have j0 : (0 : Int) ≤ j := by omega
      have j1 : (j : Int) < n := by omega
      have hcp : n ≤ cp := by omega
      have HX := Lib.hid (And.intro hfr hF)
      clear hfr hF hfl cc he hcell hcells hn hnc
      go_wp2
      all_goals obtain ⟨hfr, hF⟩ := HX.out
      all_goals first
        | (refine ⟨⟨j + 1, ?_, ?_, ?_⟩, ?_⟩
           · omega
           · go_num
           · (repeat (first | (with_reducible exact Fr.refl _ _) | (with_reducible assumption) | (with_reducible refine Fr.drew ?_) | (with_reducible refine Fr.drewN ?_ _) | (with_reducible refine Fr.alloc ?_ _) | (with_reducible refine Fr.mput ?_ _ _ _ (.inl (by simp))) | (with_reducible refine Fr.mdel ?_ _ _ (.inl (by simp))) | (with_reducible refine Fr.set ?_ _ _ (.inr (by first | omega | (dsimp only; omega)))) | (with_reducible refine Fr.set ?_ _ _ (.inl (by simp)))))
           · simp [intOf]
             omega)
        | (go_returns
           refine ⟨j, rfl, ?_, ?_, ?_⟩
           · omega
           · omega
           · (repeat (first | (with_reducible exact Fr.refl _ _) | (with_reducible assumption) | (with_reducible refine Fr.drew ?_) | (with_reducible refine Fr.drewN ?_ _) | (with_reducible refine Fr.alloc ?_ _) | (with_reducible refine Fr.mput ?_ _ _ _ (.inl (by simp))) | (with_reducible refine Fr.mdel ?_ _ _ (.inl (by simp))) | (with_reducible refine Fr.set ?_ _ _ (.inr (by first | omega | (dsimp only; omega)))) | (with_reducible refine Fr.set ?_ _ _ (.inl (by simp))))))
    · clear hcells hnc
      have HX := Lib.hid (And.intro hfr hF)
      clear hfr hF hfl hn
      go_wp2
      go_returns
      obtain ⟨hfr, hF⟩ := HX.out
      exact ⟨-1, rfl, by omega, by omega, hF⟩

theorem utime_any {w : World} {u : Nat} {v : Value} {l : List Ent} (h : UAt w u v l) (now : Int) :
    Calls Tryz.prog 73 #[.pointer (some ⟨u, 0, none⟩), .int .i64 now] w fun en w' => ∃ x : Int, en = .returned (.int .i64 x) ∧ UAt w' u v l ∧ Fr [u] w w' := by
  obtain ⟨a, b, c, ht⟩ := h.tab
  have hlo := h.row
  have hnu : ∀ k, v.ownBlock = some k → k ≠ u := fun k hk => by have := own_base hlo k hk; omega
  have c2 := cell_at ht 2 (v := .int .i64 a) rfl
  have f2 := free_at ht 2
  obtain ⟨p0, p1, p2, p3, _, _⟩ := lts (lt_of ht)
  have H := Lib.hid (And.intro h (And.intro ht hnu))
  clear h ht hlo hnu
  by_cases hgt : a < now
  · go_enter Tryz.func73, Tryz.ntmps73
    go_wp2
    go_returns
    obtain ⟨h, ht, hnu⟩ := H.out
    refine ⟨now, rfl, ⟨⟨now, b, c, by rw [heap_set ht]; rfl⟩, ⟨h.row.1, ?_⟩, h.len⟩, (Fr.refl [u] w).set _ _ (.inl (by simp))⟩
    rcases h.row.2 with h1 | ⟨g, cap, cur, rfl, hb, hg, r⟩
    · exact .inl h1
    · exact .inr ⟨g, cap, cur, rfl, hb, by rw [heap_set_ne _ _ _ (hnu g rfl)]; exact hg, r⟩
  · go_enter Tryz.func73, Tryz.ntmps73
    go_wp2
    go_returns
    exact ⟨⟨a, rfl⟩, H.out.1, Fr.refl _ _⟩
theorem urow_cut {w3 : World} {u n i base : Nat} {l : List Ent} {v3 : Value} (hown3 : w3.ownsRow base 90 7 v3 (0 + i + (n - (i + 1))) ([] ++ (l.flatMap ucells).take (i * 7) ++ (l.flatMap ucells).drop ((i + 1) * 7))) (hn : l.length = n) (hi : i < n) (hb : u + 1 ≤ base) (x : Value) :
    (w3.setCell ⟨u, 3, none⟩ x).ownsRow (u + 1) 90 7 v3 (l.take i ++ l.drop (i + 1)).length ((l.take i ++ l.drop (i + 1)).flatMap ucells) := by
  have e : 0 + i + (n - (i + 1)) = i + (n - (i + 1)) := by omega
  have e2 : (l.take i ++ l.drop (i + 1)).length = i + (n - (i + 1)) := by
    rw [List.length_append, List.length_take, List.length_drop, hn]
    omega
  rw [e2]
  rw [e, List.nil_append, flat_take (enc := ucells) (k := 7) (fun _ => rfl), flat_drop (enc := ucells) (k := 7) (fun _ => rfl), ← List.flatMap_append] at hown3
  exact own_lower (own_fr hown3 ((Fr.refl [u] w3).set _ _ (.inl (by simp))) (fun k hk => by simp at hk; omega)) hb
end Go.Proofs.YthahlimmmnmniaaGreatDoor
