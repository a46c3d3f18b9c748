/- The siblings: Capacity, All. -/
import Derived.Test.YthahlimmmnmniaaGreatDoorR10
import Derived.Test.YthahlimmmnmniaaGreatDoorR18
import Derived.Test.YthahlimmmnmniaaGreatDoorR20
namespace Go.Proofs.YthahlimmmnmniaaGreatDoor
open Go.RowKit Go.Fw

def capOf (T : SibT) (id now : Int) : Int := match aget T.reps id with
  | none => 0
  | some r => if r.2 ≤ now then 0 else r.1
def sget (T : SibT) (k : Int) : Int × Int × Int := (aget T.sites k).getD (0, 0, 0)

set_option maxHeartbeats 800000 in
theorem cap_any {w : World} {s sm rm : Nat} {T : SibT} (h : SibAt w s sm rm T) (id now : Int) :
    Calls Tryz.prog 82 #[.pointer (some ⟨s, 0, none⟩), .int .i64 id, .int .i64 now] w fun en w' => en = .returned (.int .i64 (capOf T id now)) ∧ Fr [] w w' := by
  have hr := h.reps
  obtain ⟨c0, c1⟩ := sib_cells h.tab
  obtain ⟨pl0, pl1, pl2, pl3, _, _⟩ := lts (lt_of h.tab)
  have lk := fun (W : World) (hW : HasMap W rm (Value.int .i64) repVal T.reps) => look_rep id true W hW
  have hc : capOf T id now = capOf T id now := rfl
  conv at hc => rhs; unfold capOf
  cases hg : aget T.reps id with
  | none =>
    simp only [hg, Option.map_none, Option.getD_none, Option.isSome_none, if_true] at lk
    simp only [hg] at hc
    rw [hc]
    clear hc hg
    go_enter Tryz.func82, Tryz.ntmps82
    go_wp2_with (go_at_call 66; refine (smade_walk s sm _ ?_).mono ?_; (go_simp); rintro en w1 ⟨rfl, rfl⟩)
    all_goals go_returns
    all_goals exact ⟨rfl, by (repeat (first | (with_reducible exact Fr.refl _ _) | (with_reducible assumption) | (with_reducible refine Fr.drew ?_) | (with_reducible refine Fr.drewN ?_ _) | (with_reducible refine Fr.alloc ?_ _) | (with_reducible refine Fr.mput ?_ _ _ _ (.inl (by simp))) | (with_reducible refine Fr.mdel ?_ _ _ (.inl (by simp))) | (with_reducible refine Fr.set ?_ _ _ (.inr (by first | omega | (dsimp only; omega)))) | (with_reducible refine Fr.set ?_ _ _ (.inl (by simp)))))⟩
  | some r =>
    obtain ⟨c, u⟩ := r
    simp only [hg, Option.map_some, Option.getD_some, Option.isSome_some, if_true, repVal] at lk
    simp only [hg] at hc
    rw [hc]
    clear hc hg
    by_cases hu : u ≤ now
    · simp only [hu, if_true]
      go_enter Tryz.func82, Tryz.ntmps82
      go_wp2_with (go_at_call 66; refine (smade_walk s sm _ ?_).mono ?_; (go_simp); rintro en w1 ⟨rfl, rfl⟩)
      all_goals go_returns
      all_goals exact ⟨rfl, by (repeat (first | (with_reducible exact Fr.refl _ _) | (with_reducible assumption) | (with_reducible refine Fr.drew ?_) | (with_reducible refine Fr.drewN ?_ _) | (with_reducible refine Fr.alloc ?_ _) | (with_reducible refine Fr.mput ?_ _ _ _ (.inl (by simp))) | (with_reducible refine Fr.mdel ?_ _ _ (.inl (by simp))) | (with_reducible refine Fr.set ?_ _ _ (.inr (by first | omega | (dsimp only; omega)))) | (with_reducible refine Fr.set ?_ _ _ (.inl (by simp)))))⟩
    · simp only [hu, if_false]
      go_enter Tryz.func82, Tryz.ntmps82
      go_wp2_with (go_at_call 66; refine (smade_walk s sm _ ?_).mono ?_; (go_simp); rintro en w1 ⟨rfl, rfl⟩)
      all_goals go_returns
      all_goals exact ⟨rfl, by (repeat (first | (with_reducible exact Fr.refl _ _) | (with_reducible assumption) | (with_reducible refine Fr.drew ?_) | (with_reducible refine Fr.drewN ?_ _) | (with_reducible refine Fr.alloc ?_ _) | (with_reducible refine Fr.mput ?_ _ _ _ (.inl (by simp))) | (with_reducible refine Fr.mdel ?_ _ _ (.inl (by simp))) | (with_reducible refine Fr.set ?_ _ _ (.inr (by first | omega | (dsimp only; omega)))) | (with_reducible refine Fr.set ?_ _ _ (.inl (by simp)))))⟩

theorem info_site : (Tryz.prog.info? 62).map (fun i => (i.zero, i.size, i.bytes)) = some (some (.agg #[.int .i64 0, .int .u32 0, .int .i64 0]), 3, 24) := by kernel_rfl

/-- All sites, by their numbers. -/
def sitesOf (T : SibT) : List (Int × Int × Int) := (keysOf T.sites).map (sget T)

def AllPost (T : SibT) (w : World) (en : Ending) (w' : World) : Prop :=
  ∃ v, en = .returned v ∧ w'.ownsRow w.heap.size 62 3 v (sitesOf T).length ((sitesOf T).flatMap encSite) ∧ Fr [] w w'

def AllRel (T : SibT) (w1 : World) (n : Nat) (l i : Value) (wr : World) : Prop :=
  ∃ k : Nat, k ≤ n ∧ i = .int .i64 k ∧ wr.ownsRow w1.heap.size 62 3 l k (((keysOf T.sites).take k).flatMap fun q => encSite (sget T q)) ∧ Fr [] w1 wr

theorem skeys_mem {T : SibT} {k : Int} (h : k ∈ keysOf T.sites) : ∃ m, aget T.sites k = some m := by
  unfold keysOf at h
  have h1 := (List.mergeSort_perm (T.sites.map Prod.fst) (fun x y => decide (x ≤ y))).mem_iff.1 h
  cases hg : aget T.sites k with
  | some m => exact ⟨m, rfl⟩
  | none => exact absurd h1 (aget_none.1 hg)

set_option maxHeartbeats 2000000 in
theorem sall_any {w : World} {s sm rm : Nat} {T : SibT} (h : SibAt w s sm rm T) (ok : SOk T) :
    Calls Tryz.prog 81 #[.pointer (some ⟨s, 0, none⟩)] w (AllPost T w) := by
  obtain ⟨i0, hi, hz0, hz1, hz2⟩ := info_parts info_site
  have hm := h.sites
  obtain ⟨c0, c1⟩ := sib_cells h.tab
  obtain ⟨pl0, pl1, pl2, pl3, _, _⟩ := lts (lt_of h.tab)
  have hrange : ∀ q ∈ T.sites, -9223372036854775808 ≤ q.1 ∧ q.1 ≤ 9223372036854775807 := fun q hq => by
    have := ok.2 q hq
    omega
  have hlen : T.sites.length ≤ 1000000 := by have := ok.1; omega
  have hkl : (keysOf T.sites).length ≤ 8 := by unfold keysOf; rw [List.length_mergeSort, List.length_map]; exact ok.1
  have HO := Lib.hid (And.intro hrange (And.intro hlen hkl))
  have HI := Lib.hid (And.intro hi (And.intro hz0 (And.intro hz1 hz2)))
  clear hrange hlen hkl hi hz0 hz1 hz2
  go_enter Tryz.func81, Tryz.ntmps81
  go_wp2_with (first
    | (go_at_call 66; refine (smade_walk s sm _ ?_).mono ?_; (go_simp); rintro en w1 ⟨rfl, rfl⟩)
    | (go_at_call 97; refine (keysS_any sm _).mono ?_; rintro en w1 ⟨rfl, rfl⟩))
  refine (sortedS_any (l := T.sites) (ev := siteVal) (mb := sm) ?_ ?_ HO.out.1 HO.out.2.1).mono ?_
  · simp; exact hm
  · simp
  rintro en w1 ⟨v, rfl, hrow, hnil, hfr⟩
  obtain ⟨hrange, hlen, hkl⟩ := HO.out
  have hF := ((Fr.refl [] w).alloc _).trans hfr (by simp)
  have hm1 := hm.keep hF (by simp)
  have hp1 := hF.keep h.tab (by simp)
  obtain ⟨n, hn⟩ : ∃ n, (keysOf T.sites).length = n := ⟨_, rfl⟩
  have hnk : n ≤ 8 := by omega
  rw [hn] at hrow
  obtain ⟨ad, cp, rfl, hnc, hkc⟩ := own_form hrow
  have hnn : (n : Int) ≤ 8 := by omega
  have HK := Lib.hid (And.intro hn (And.intro hrow (And.intro hnc hkc)))
  have HF := Lib.hid (And.intro hF hp1)
  clear hn hrow hnil hkc hfr hF hp1 hnc
  go_wp2
  go_loopw [3, 16] (fun l i wr => AllRel T w1 n l i wr) (fun _ i _ => n - (intOf i).toNat)
  case atStart => exact ⟨0, Nat.zero_le _, rfl, ⟨rfl, .inl ⟨rfl, rfl⟩⟩, Fr.refl _ _⟩
  case round =>
    obtain ⟨j, hj, rfl, hown, hfr⟩ := hrel
    obtain ⟨hn, hrow, hnc, hkc⟩ := HK.out
    obtain ⟨hF, hp1⟩ := HF.out
    by_cases hlt : j < n
    · obtain ⟨g, rfl, hgb, hg, hcell⟩ := hkc (by omega)
      obtain ⟨x, hx⟩ : ∃ x, (keysOf T.sites)[j]? = some x := ⟨(keysOf T.sites)[j], List.getElem?_eq_getElem (by omega)⟩
      have hcell' := (hfr.cell (a := ⟨g, j, none⟩) hg (by simp)).trans (hcell j (.int .i64 x) (by simp [hx]))
      obtain ⟨m, hmg⟩ := skeys_mem (List.mem_of_getElem? hx)
      have hpm : sget T x = m := by unfold sget; rw [hmg]; rfl
      have hmr := hm1.keep hfr (by simp)
      obtain ⟨c0r, _⟩ := sib_cells (hfr.keep hp1 (by simp))
      have lk := fun (W : World) (hW : HasMap W sm (Value.int .i64) siteVal T.sites) => look_site x false W hW
      simp only [hmg, Option.map_some, Option.getD_some, siteVal, Bool.false_eq_true, if_false] at lk
      have hsucc : ((keysOf T.sites).take (j + 1)).flatMap (fun q => encSite (sget T q)) = ((keysOf T.sites).take j).flatMap (fun q => encSite (sget T q)) ++ encSite m := by
        rw [List.take_add_one, hx]
        simp [hpm]
      have j0 : (0 : Int) ≤ j := by omega
      have j1 : (j : Int) < n := by omega
      have hcap : n ≤ cp := by omega
      have hbase := hfr.size
      have hg' : g < wr.heap.size := Nat.lt_of_lt_of_le hg hfr.size
      obtain ⟨hi, hz0, hz1, hz2⟩ := HI.out
      have hown3 := fun o => own_fr hown ((Fr.refl [] wr).alloc o) (by simp)
      have HX := Lib.hid (And.intro hfr (And.intro hsucc (And.intro hi (And.intro hz0 (And.intro hz1 (And.intro hz2 hown3))))))
      clear hfr hsucc hi hz0 hz1 hz2 hown hown3 hn hrow hnc hkc hcell hx hmg hpm hF hp1
      go_wp2_with (at_builtin; refine wpList_append_own _ rfl _ _ 24 rfl w1.heap.size 62 i0 (.agg #[.int .i64 0, .int .u32 0, .int .i64 0]) 3 24 Tryz.underlying24 HX.out.2.2.1 HX.out.2.2.2.1 HX.out.2.2.2.2.1 HX.out.2.2.2.2.2.1 rfl (by decide) _ _ _ rfl (HX.out.2.2.2.2.2.2 _) ⟨wr.heap.size, 0, none⟩ 1 1 [.int .i64 m.1, .int .u32 m.2.1, .int .i64 m.2.2] rfl rfl ?c1 ?c2 ?c3 ?c4 ?c5 ?_)
      case c1 => exact news_new wr [.int .i64 m.1, .int .u32 m.2.1, .int .i64 m.2.2] 62
      case c2 => intro u hu; simp at hu; rcases hu with rfl | rfl | rfl <;> rfl
      case c3 => unfold maxLen; omega
      case c4 => omega
      case c5 => simp; omega
      intro v' w5 hown' hgrow _
      have HZ := Lib.hid (And.intro hown' hgrow)
      clear hown' hgrow
      go_wp2
      go_roundw
      all_goals obtain ⟨hfr, hsucc, _, _, _, _, hown3⟩ := HX.out
      · obtain ⟨hown', hgrow⟩ := HZ.out
        refine ⟨j + 1, by omega, by go_num, ?_, ?_⟩
        · rw [hsucc]
          exact hown'
        · exact (hfr.alloc _).grown hgrow (fun k hk => .inr (own_base (hown3 (.cells #[] 0)) k hk))
      · simp [intOf]; omega
    · obtain rfl : j = n := by omega
      have HX := Lib.hid (And.intro hown (And.intro hfr (And.intro hF hn)))
      clear hown hfr hn hrow hnc hkc hF hp1
      go_wp2
      go_returns
      obtain ⟨hown, hfr, hF, hn⟩ := HX.out
      refine ⟨_, rfl, ?_, hF.trans hfr (by simp)⟩
      have h2 := own_lower hown hF.size
      rw [← hn, List.take_length] at h2
      have e1 : (sitesOf T).length = (keysOf T.sites).length := by unfold sitesOf; simp
      have e2 : (sitesOf T).flatMap encSite = (keysOf T.sites).flatMap (fun q => encSite (sget T q)) := by unfold sitesOf; rw [List.flatMap_map]
      rw [e1, e2]
      exact h2
end Go.Proofs.YthahlimmmnmniaaGreatDoor
