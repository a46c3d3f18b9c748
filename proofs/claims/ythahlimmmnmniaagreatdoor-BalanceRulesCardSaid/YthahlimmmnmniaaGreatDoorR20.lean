/- slices.Sorted(maps.Keys(m)) over a map with int keys: the keys, rising, in a new slice. Condition: the keys are ints of 64 bits. The pool: the backends that get new flows, by ids. -/
import Derived.Test.YthahlimmmnmniaaGreatDoorRows
import Derived.Shelf.AbstractIn
import Derived.Handy
import Derived.Test.YthahlimmmnmniaaGreatDoorR02
import Derived.Test.YthahlimmmnmniaaGreatDoorR09
import Derived.Test.YthahlimmmnmniaaGreatDoorR17
namespace Go.Proofs.YthahlimmmnmniaaGreatDoor
open Go.RowKit Go.Fw Go.Maps Go.Sort Go.Shelf
open Go.WideElems (Fit rg)

/-- An element that reads as nothing in particular. -/
def noElem (_ : Value) : Option (DataW Unit × List MemPlace) := some (.nil, [])

theorem Entries.owns {β : Type} {ev : β → Value} {w : World} {b : Nat} {l : List (Int × β)} (h : HasMap w b (Value.int .i64) ev l) (hk : ∀ p ∈ l, -9223372036854775808 ≤ p.1 ∧ p.1 ≤ 9223372036854775807) (hl : l.length ≤ 1000000) :
    ∃ D : DataW Unit, w.ownsMap Tryz.prog 3 noElem b l.length D ∧ (intKeys D).Perm (l.map Prod.fst) ∧ Maps.size D = l.length := by
  obtain ⟨es, clock, hb, E⟩ := h
  have hkey : ∀ e ∈ es.toList, ∃ p ∈ l, e.key = .int .i64 p.1 ∧ Go.WideElems.rd Tryz.prog 3 noElem e = some (.int .i64 p.1, .nil) := by
    intro e he
    obtain ⟨j, hj⟩ := List.mem_iff_getElem?.1 he
    obtain ⟨p, hp, hkp, _⟩ := E.at hj
    have hm := List.mem_of_getElem? hp
    refine ⟨p, hm, hkp, ?_⟩
    have hr := hk p hm
    have : keyOf Tryz.prog 3 e.key = some (.int .i64 p.1) := by rw [hkp]; exact keyOf_int_mk Tryz.underlying3 (WalkArith.wf_i64 (by omega))
    simp [Go.WideElems.rd, this, noElem]
  have hsz := E.size
  have hst : Go.MapKept.Stamped es clock := ⟨E.lt, E.born, E.keysNodup (fun a b h => by simpa using h)⟩
  have hrg : es.toList.map (rg Tryz.prog 3 noElem) = l.map (fun p => ((Lit.int .i64 p.1 : Lit), (DataW.nil : DataW Unit))) := by
    apply List.ext_getElem?
    intro i
    simp only [List.getElem?_map]
    cases he : es.toList[i]? with
    | none =>
      have : l[i]? = none := by
        rw [List.getElem?_eq_none_iff] at he ⊢
        rw [Array.length_toList] at he
        omega
      simp [this]
    | some e =>
      obtain ⟨p, hp, hkp, _⟩ := E.at he
      have hr := hk p (List.mem_of_getElem? hp)
      have : keyOf Tryz.prog 3 e.key = some (.int .i64 p.1) := by rw [hkp]; exact keyOf_int_mk Tryz.underlying3 (WalkArith.wf_i64 (by omega))
      simp [hp, rg, Go.WideElems.rd, this, noElem]
  refine ⟨_, ⟨es, clock, hb, ⟨by unfold maxLen; omega, hst, fun x hx => ?_⟩, by omega, rfl⟩, ?_, ?_⟩
  · obtain ⟨p, _, _, h⟩ := hkey x hx
    exact ⟨_, h⟩
  · rw [hrg]
    have hp := Go.WideShapes.sorted_perm (l.map (fun p => ((Lit.int .i64 p.1 : Lit), (DataW.nil : DataW Unit))))
    have := hp.map fun q => Go.intOf q.1
    refine this.trans ?_
    rw [List.map_map]
    exact List.Perm.refl _
  · rw [Maps.size_eq, length_sorted, hrg]
    simp
/-- slices.Sort's two contracts at this dump, at the fence that asks nothing. -/
theorem sortsA (m : Nat) : AnyZI.SortsIn Tryz.prog Tryz.sorted_ren Fence.wide m :=
  ⟨fun blk off cap ss W hH hblk hsz => callsIn_wide.2 (AnyM.slices_Sort_int Tryz.sort blk off cap ss W hH hblk hsz),
   fun p cap W => callsIn_wide.2 (AnyM.slices_Sort_int_none Tryz.sort p cap W)⟩

/-- The keys, rising. -/
def keysOf {β : Type} (l : List (Int × β)) : List Int := (l.map Prod.fst).mergeSort (fun x y => decide (x ≤ y))

def SortedPost {β : Type} (l : List (Int × β)) (W : World) (en : Ending) (w' : World) : Prop :=
  ∃ v, en = .returned v ∧ w'.ownsRow W.heap.size 3 1 v (keysOf l).length ((keysOf l).map (Value.int .i64)) ∧ (v = .slice none 0 0 ↔ keysOf l = []) ∧ Fr [] W w'

theorem keysM_any (mb : Nat) (W : World) : Calls Tryz.prog 80 #[.map (some mb)] W fun en w' => en = .returned (.func (.func 96) #[] #[.pointer (some ⟨W.heap.size, 0, none⟩)]) ∧ w' = W.alloc (.cells #[.map (some mb)] 108) := by
  go_enter Tryz.func80, Tryz.ntmps80
  go_wp2
  go_returns
  exact ⟨rfl, rfl⟩

set_option maxHeartbeats 1000000 in
theorem sortedM_any {β : Type} {ev : β → Value} {w : World} {mb c : Nat} {l : List (Int × β)} (h : HasMap w mb (Value.int .i64) ev l) (hc : w.cell? ⟨c, 0, none⟩ = some (.map (some mb))) (hk : ∀ p ∈ l, -9223372036854775808 ≤ p.1 ∧ p.1 ≤ 9223372036854775807) (hl : l.length ≤ 1000000) :
    Calls Tryz.prog 79 #[.func (.func 96) #[] #[.pointer (some ⟨c, 0, none⟩)]] w (SortedPost l w) := by
  obtain ⟨D, hown, hperm, hsize⟩ := Entries.owns h hk hl
  have hlt : c < w.heap.size := World.block_lt_of_cell? _ _ hc
  have hseq : SeqGives Fence.wide 2 Tryz.prog 96 #[.pointer (some ⟨c, 0, none⟩)] encZ (fun ss => ss.Perm (intKeys D)) (Maps.size D) w :=
    AnyZI.keys_gives (ρ := Tryz.keysM_ren) { Tryz.keysM with } Fence.wide _ trivial rfl (by omega) c mb l.length D _ hlt hc hown
  have cS := AnyZI.sorted_in Tryz.sorted Fence.wide 5 trivial trivial trivial trivial rfl (by omega) (sortsA _) (enters_of Tryz.func95 (by kernel_rfl) rfl) 96 #[.pointer (some ⟨c, 0, none⟩)] trivial (enters_of Tryz.func96 (by kernel_rfl) rfl) _ _ (by unfold maxLen; omega) (by omega) _ hseq
  refine (callsIn_wide.1 cS).mono ?_
  rintro en w' ⟨v, ss, rfl, hS, hrow, hnil, hb⟩
  have hp : ss.Perm (l.map Prod.fst) := hS.trans hperm
  have hm : ss.mergeSort (fun x y => decide (x ≤ y)) = keysOf l := mergeSort_of_perm_i hp
  have hlen : ss.length = (keysOf l).length := by rw [← hm, List.length_mergeSort]
  refine ⟨v, rfl, ?_, ?_, Fr.of_below hb⟩
  · rw [hm, hlen] at hrow; exact hrow
  · rw [hnil, ← List.length_eq_zero_iff, hlen, List.length_eq_zero_iff]

theorem keysS_any (mb : Nat) (W : World) : Calls Tryz.prog 97 #[.map (some mb)] W fun en w' => en = .returned (.func (.func 108) #[] #[.pointer (some ⟨W.heap.size, 0, none⟩)]) ∧ w' = W.alloc (.cells #[.map (some mb)] 123) := by
  go_enter Tryz.func97, Tryz.ntmps97
  go_wp2
  go_returns
  exact ⟨rfl, rfl⟩

set_option maxHeartbeats 1000000 in
theorem sortedS_any {β : Type} {ev : β → Value} {w : World} {mb c : Nat} {l : List (Int × β)} (h : HasMap w mb (Value.int .i64) ev l) (hc : w.cell? ⟨c, 0, none⟩ = some (.map (some mb))) (hk : ∀ p ∈ l, -9223372036854775808 ≤ p.1 ∧ p.1 ≤ 9223372036854775807) (hl : l.length ≤ 1000000) :
    Calls Tryz.prog 79 #[.func (.func 108) #[] #[.pointer (some ⟨c, 0, none⟩)]] w (SortedPost l w) := by
  obtain ⟨D, hown, hperm, hsize⟩ := Entries.owns h hk hl
  have hlt : c < w.heap.size := World.block_lt_of_cell? _ _ hc
  have hseq : SeqGives Fence.wide 2 Tryz.prog 108 #[.pointer (some ⟨c, 0, none⟩)] encZ (fun ss => ss.Perm (intKeys D)) (Maps.size D) w :=
    AnyZI.keys_gives (ρ := Tryz.keysS_ren) { Tryz.keysS with } Fence.wide _ trivial rfl (by omega) c mb l.length D _ hlt hc hown
  have cS := AnyZI.sorted_in Tryz.sorted Fence.wide 5 trivial trivial trivial trivial rfl (by omega) (sortsA _) (enters_of Tryz.func95 (by kernel_rfl) rfl) 108 #[.pointer (some ⟨c, 0, none⟩)] trivial (enters_of Tryz.func108 (by kernel_rfl) rfl) _ _ (by unfold maxLen; omega) (by omega) _ hseq
  refine (callsIn_wide.1 cS).mono ?_
  rintro en w' ⟨v, ss, rfl, hS, hrow, hnil, hb⟩
  have hp : ss.Perm (l.map Prod.fst) := hS.trans hperm
  have hm : ss.mergeSort (fun x y => decide (x ≤ y)) = keysOf l := mergeSort_of_perm_i hp
  have hlen : ss.length = (keysOf l).length := by rw [← hm, List.length_mergeSort]
  refine ⟨v, rfl, ?_, ?_, Fr.of_below hb⟩
  · rw [hm, hlen] at hrow; exact hrow
  · rw [hnil, ← List.length_eq_zero_iff, hlen, List.length_eq_zero_iff]

end Go.Proofs.YthahlimmmnmniaaGreatDoor

namespace Go.Proofs.YthahlimmmnmniaaGreatDoor
open Go.RowKit Go.Fw

def elig (m : Mem) : Bool := m.up && !m.drain && decide (0 < m.weight)
def bcells (m : Mem) : List Value := [.int .i64 m.id, .int .u32 m.addr, .int .i64 m.weight]
/-- The first k keys' members that get new flows. -/
def eligTo (T : PoolT) (k : Nat) : List Mem := (((keysOf T.l).take k).map (pget T)).filter elig
def eligible (T : PoolT) : List Mem := ((keysOf T.l).map (pget T)).filter elig

theorem elig_walk (W : World) (m : Mem) : Calls Tryz.prog 50 #[.agg #[.int .i64 m.id, .int .u32 m.addr, .int .i64 m.weight, .bool m.up, .bool m.drain]] W fun en w' => en = .returned (.bool (elig m)) ∧ Fr [] W w' := by
  have hs := fun W => serves_walk W m
  cases hu : (m.up && !m.drain) with
  | true =>
    rw [hu] at hs
    have he : elig m = decide (0 < m.weight) := by unfold elig; rw [hu]; simp
    rw [he]
    have HS := Lib.hid hs
    clear hs he
    have HU := Lib.hid hu
    clear hu
    go_enter Tryz.func50, Tryz.ntmps50
    go_wp2_with fail
    refine (HS.out _).mono ?_
    rintro en w1 ⟨rfl, hfr⟩
    have hM := hfr.keep (k := W.heap.size) (o := .cells #[.int .i64 m.id, .int .u32 m.addr, .int .i64 m.weight, .bool m.up, .bool m.drain] 103 (0, 0)) (by rw [heap_alloc_if, if_pos rfl]) (by simp)
    have m2 := cell_at hM 2 (v := .int .i64 m.weight) rfl
    have HH := Lib.hid (And.intro hM hfr)
    clear hM hfr
    go_wp2
    go_returns
    exact ⟨rfl, ((Fr.refl [] W).alloc _).trans HH.out.2 (by simp)⟩
  | false =>
    rw [hu] at hs
    have he : elig m = false := by unfold elig; rw [hu]; rfl
    rw [he]
    have HS := Lib.hid hs
    clear hs he
    have HU := Lib.hid hu
    clear hu
    go_enter Tryz.func50, Tryz.ntmps50
    go_wp2_with fail
    refine (HS.out _).mono ?_
    rintro en w1 ⟨rfl, hfr⟩
    have HH := Lib.hid hfr
    clear hfr
    go_wp2
    go_returns
    exact ⟨rfl, ((Fr.refl [] W).alloc _).trans HH.out (by simp)⟩

theorem info_backend : (Tryz.prog.info? 56).map (fun i => (i.zero, i.size, i.bytes)) = some (some (.agg #[.int .i64 0, .int .u32 0, .int .i64 0]), 3, 24) := by kernel_rfl

def EligPost (T : PoolT) (w : World) (en : Ending) (w' : World) : Prop :=
  ∃ v, en = .returned v ∧ w'.ownsRow w.heap.size 56 3 v (eligible T).length ((eligible T).flatMap bcells) ∧ Fr [] w w'

theorem keys_mem {T : PoolT} {k : Int} (h : k ∈ keysOf T.l) : ∃ m, aget T.l k = some m := by
  unfold keysOf at h
  have h1 := (List.mergeSort_perm (T.l.map Prod.fst) (fun x y => decide (x ≤ y))).mem_iff.1 h
  cases hg : aget T.l k with
  | some m => exact ⟨m, rfl⟩
  | none => exact absurd h1 (aget_none.1 hg)

theorem eligTo_succ {T : PoolT} {k : Nat} {x : Int} (h : (keysOf T.l)[k]? = some x) : eligTo T (k + 1) = eligTo T k ++ (if elig (pget T x) then [pget T x] else []) := by
  unfold eligTo
  rw [List.take_add_one, h]
  simp only [Option.toList_some, List.map_append, List.map_cons, List.map_nil, List.filter_append, List.filter_cons, List.filter_nil]

theorem eligTo_all {T : PoolT} : eligTo T (keysOf T.l).length = eligible T := by
  unfold eligTo eligible
  rw [List.take_length]

theorem eligTo_len (T : PoolT) (k : Nat) : (eligTo T k).length ≤ k := by
  unfold eligTo
  refine Nat.le_trans (List.length_filter_le _ _) ?_
  rw [List.length_map]
  exact List.length_take_le _ _

def EligRel (T : PoolT) (w1 : World) (n : Nat) (l i : Value) (wr : World) : Prop :=
  ∃ k : Nat, k ≤ n ∧ i = .int .i64 k ∧ wr.ownsRow w1.heap.size 56 3 l (eligTo T k).length ((eligTo T k).flatMap bcells) ∧ Fr [] w1 wr

set_option maxHeartbeats 2000000 in
theorem eligible_any {w : World} {p mb : Nat} {T : PoolT} (h : PoolAt w p mb T) (ok : POk T) :
    Calls Tryz.prog 49 #[.pointer (some ⟨p, 0, none⟩), .func (.func 50) #[] #[]] w (EligPost T w) := by
  obtain ⟨i0, hi, hz0, hz1, hz2⟩ := info_parts info_backend
  have hm := h.map
  obtain ⟨c0, c1⟩ := pool_cells h.pool
  obtain ⟨pl0, pl1, pl2, pl3, _, _⟩ := lts (lt_of h.pool)
  have hrange : ∀ q ∈ T.l, -9223372036854775808 ≤ q.1 ∧ q.1 ≤ 9223372036854775807 := fun q hq => by
    have := ok.2 q hq
    omega
  have hlen : T.l.length ≤ 1000000 := by have := ok.1; omega
  have hkl : (keysOf T.l).length ≤ 16 := by unfold keysOf; rw [List.length_mergeSort, List.length_map]; exact ok.1
  have HO := Lib.hid (And.intro hrange (And.intro hlen hkl))
  have HI := Lib.hid (And.intro hi (And.intro hz0 (And.intro hz1 hz2)))
  clear hrange hlen hkl hi hz0 hz1 hz2
  go_enter Tryz.func49, Tryz.ntmps49
  go_wp2_with (first
    | (go_at_call 44; refine (pmade_walk p mb _ ?_).mono ?_; (go_simp); rintro en w1 ⟨rfl, rfl⟩)
    | (go_at_call 80; refine (keysM_any mb _).mono ?_; rintro en w1 ⟨rfl, rfl⟩))
  refine (sortedM_any (l := T.l) (ev := Mem.val) (mb := mb) ?_ ?_ HO.out.1 HO.out.2.1).mono ?_
  · simp; exact hm
  · simp
  rintro en w1 ⟨v, rfl, hrow, hnil, hfr⟩
  obtain ⟨hrange, hlen, hkl⟩ := HO.out
  have hF := ((Fr.refl [] w).alloc _).trans hfr (by simp)
  have hm1 := hm.keep hF (by simp)
  have hp1 := hF.keep h.pool (by simp)
  obtain ⟨c0', c1'⟩ := pool_cells hp1
  obtain ⟨n, hn⟩ : ∃ n, (keysOf T.l).length = n := ⟨_, rfl⟩
  have hnk : n ≤ 16 := by omega
  obtain ⟨ad, cp, hv, hkc⟩ : ∃ ad cp, v = .slice ad n cp ∧ (n ≤ cp ∨ n = 0) ∧ ∀ j, j < n → ∃ (g : Nat) (x : Int), ad = some ⟨g, 0, none⟩ ∧ g < w1.heap.size ∧ (keysOf T.l)[j]? = some x ∧ w1.cell? ⟨g, j, none⟩ = some (.int .i64 x) := by
    have hrow' := hrow
    rw [hn] at hrow'
    rcases hrow'.2 with ⟨rfl, h0⟩ | ⟨g, cap, cur, rfl, hbase, hgb, hnc, r⟩
    · exact ⟨none, 0, by rw [h0], .inr h0, fun j hj => by omega⟩
    · refine ⟨some ⟨g, 0, none⟩, cap, rfl, .inl hnc, fun j hj => ?_⟩
      have hj' : j < (keysOf T.l).length := by omega
      refine ⟨g, (keysOf T.l)[j], rfl, lt_of hgb, List.getElem?_eq_getElem hj', ?_⟩
      exact own_cell hrow' (by simp [List.getElem?_eq_getElem hj'])
  subst hv
  have hnn : (n : Int) ≤ 16 := by omega
  have HK := Lib.hid (And.intro hn (And.intro hrow (And.intro hnil hkc)))
  have HF := Lib.hid (And.intro hF hp1)
  clear hn hrow hnil hkc hfr hF hp1
  go_wp2
  go_loopw [5, 19] (fun l i wr => EligRel T w1 n l i wr) (fun _ i _ => n - (intOf i).toNat)
  case atStart => exact ⟨0, Nat.zero_le _, rfl, ⟨rfl, .inl ⟨rfl, rfl⟩⟩, Fr.refl _ _⟩
  case round =>
    obtain ⟨j, hj, rfl, hown, hfr⟩ := hrel
    obtain ⟨hn, hrow, hnil, hnc, hkc⟩ := HK.out
    obtain ⟨hF, hp1⟩ := HF.out
    by_cases hlt : j < n
    · obtain ⟨g, x, rfl, hg, hx, hcell⟩ := hkc j hlt
      obtain ⟨m, hmg⟩ := keys_mem (List.mem_of_getElem? hx)
      have hpm : pget T x = m := by unfold pget; rw [hmg]; rfl
      have hcell' := (hfr.cell (a := ⟨g, j, none⟩) hg (by simp)).trans hcell
      have hmr := hm1.keep hfr (by simp)
      obtain ⟨_, c1r⟩ := pool_cells (hfr.keep hp1 (by simp))
      have lk := fun (W : World) (hW : HasMap W mb (Value.int .i64) Mem.val T.l) => look_mem x false W hW
      simp only [hmg, Option.map_some, Option.getD_some, Mem.val, Bool.false_eq_true, if_false] at lk
      have hsucc := eligTo_succ hx
      rw [hpm] at hsucc
      have hel := elig_walk (m := m)
      have j0 : (0 : Int) ≤ j := by omega
      have j1 : (j : Int) < n := by omega
      have hcap : n ≤ cp := by omega
      cases he : elig m with
      | true =>
        rw [he] at hel hsucc
        simp only [if_true] at hsucc
        have hel' := fun W => hel W
        have HX := Lib.hid (And.intro he (And.intro hsucc (And.intro hel' (And.intro hown (And.intro hfr hnc)))))
        clear he hsucc hel hel' hown hfr hnc hn hrow hnil hkc hx hmg hpm hF hp1 hcell
        go_wp2_with fail
        obtain ⟨he, hsucc, hel', hown, hfr, hnc⟩ := HX.out
        refine (hel' _).mono ?_
        rintro en w3 ⟨rfl, hfr3⟩
        have hM := hfr3.keep (k := wr.heap.size) (o := .cells #[.int .i64 m.id, .int .u32 m.addr, .int .i64 m.weight, .bool m.up, .bool m.drain] 103 (0, 0)) (by rw [heap_alloc_if, if_pos rfl]) (by simp)
        have m0 := cell_at hM 0 (v := .int .i64 m.id) rfl
        have m1 := cell_at hM 1 (v := .int .u32 m.addr) rfl
        have m2 := cell_at hM 2 (v := .int .i64 m.weight) rfl
        have hF3 := ((Fr.refl [] wr).alloc _).trans hfr3 (by simp)
        have hown3 := fun o => own_fr hown (hF3.alloc o) (by simp)
        have hlj := eligTo_len T j
        have hbase : w1.heap.size ≤ w3.heap.size := Nat.le_trans hfr.size hF3.size
        obtain ⟨hi, hz0, hz1, hz2⟩ := HI.out
        have HY := Lib.hid (And.intro hF3 (And.intro hfr (And.intro hsucc (And.intro hi (And.intro hz0 (And.intro hz1 hz2))))))
        clear he hsucc hel' hown hfr hnc hM hfr3 hF3 hi hz0 hz1 hz2
        go_wp2_with (at_builtin; refine wpList_append_own _ rfl _ _ 22 rfl w1.heap.size 56 i0 (.agg #[.int .i64 0, .int .u32 0, .int .i64 0]) 3 24 Tryz.underlying22 HY.out.2.2.2.1 HY.out.2.2.2.2.1 HY.out.2.2.2.2.2.1 HY.out.2.2.2.2.2.2 rfl (by decide) _ _ _ rfl (hown3 _) ⟨w3.heap.size, 0, none⟩ 1 1 [.int .i64 m.id, .int .u32 m.addr, .int .i64 m.weight] rfl rfl ?c1 ?c2 ?c3 ?c4 ?c5 ?_)
        case c1 => exact news_new w3 [.int .i64 m.id, .int .u32 m.addr, .int .i64 m.weight] 56
        case c2 => intro u hu; simp at hu; rcases hu with rfl | rfl | rfl <;> rfl
        case c3 => unfold maxLen; omega
        case c4 => omega
        case c5 => simp; omega
        intro v' w5 hown' hgrow _
        have HZ := Lib.hid (And.intro hown' hgrow)
        clear hown' hgrow
        go_wp2
        go_roundw
        all_goals obtain ⟨hF3, hfr, hsucc, _⟩ := HY.out
        · obtain ⟨hown', hgrow⟩ := HZ.out
          refine ⟨j + 1, by omega, by go_num, ?_, ?_⟩
          · rw [hsucc]
            simpa [List.flatMap_append, bcells] using hown'
          · have h3 := hfr.trans hF3 (by simp)
            exact (h3.alloc _).grown hgrow (fun k hk => .inr (own_base (hown3 (.cells #[] 0)) k hk))
        · simp [intOf]; omega
      | false =>
        rw [he] at hel hsucc
        simp only [Bool.false_eq_true, if_false, List.append_nil] at hsucc
        have hel' := fun W => hel W
        have HX := Lib.hid (And.intro he (And.intro hsucc (And.intro hel' (And.intro hown (And.intro hfr hnc)))))
        clear he hsucc hel hel' hown hfr hnc hn hrow hnil hkc hx hmg hpm hF hp1 hcell
        go_wp2_with fail
        obtain ⟨he, hsucc, hel', hown, hfr, hnc⟩ := HX.out
        refine (hel' _).mono ?_
        rintro en w3 ⟨rfl, hfr3⟩
        clear he hsucc hel' hown hfr hnc
        have HY := Lib.hid hfr3
        clear hfr3
        go_wp2
        go_roundw
        all_goals obtain ⟨he, hsucc, hel', hown, hfr, hnc⟩ := HX.out
        · have hF3 := ((Fr.refl [] wr).alloc _).trans HY.out (by simp)
          refine ⟨j + 1, by omega, by go_num, ?_, hfr.trans hF3 (by simp)⟩
          rw [hsucc]
          exact own_fr hown hF3 (by simp)
        · simp [intOf]; omega
    · obtain rfl : j = n := by omega
      have hall := eligTo_all (T := T)
      rw [hn] at hall
      rw [hall] at hown
      have HX := Lib.hid (And.intro hown (And.intro hfr (And.intro hF hn)))
      clear hown hfr hn hrow hnil hnc hkc hF hp1 hall
      go_wp2
      go_returns
      obtain ⟨hown, hfr, hF, hn⟩ := HX.out
      refine ⟨_, rfl, ?_, hF.trans hfr (by simp)⟩
      exact own_lower hown hF.size
end Go.Proofs.YthahlimmmnmniaaGreatDoor
