/- The flow table: what Peek answers, in memory. The flow table: an entry goes (gone), room for one more is made (spare). The flow table: Put, where the flow is there already. The flow table: room for one more is made (spare). The flow table: Put, where the flow is new. A flow's number and a backend's score: the program's and the reference's are one function. Key and Score, the program's and the reference's. -/
import Derived.Deep.QuietTactic
import Derived.BigQuiet
import Derived.Handy
import Derived.Test.YthahlimmmnmniaaGreatDoorRows
import Derived.Test.YthahlimmmnmniaaGreatDoorR02
import Derived.Test.YthahlimmmnmniaaGreatDoorR07
namespace Go.Proofs.YthahlimmmnmniaaGreatDoor
open Go.RowKit Go.Fw

structure TabAt (w : World) (t mb r : Nat) (L : List (Nat × Ent)) (m : List (Flow × Nat)) (T : FTab) : Prop where
  tab : ∃ came went : Int, w.heap[t]? = some (.cells #[.int .i64 T.room, .int .i64 T.idle, .int .i64 T.now, .map (some mb), .pointer (some ⟨r, 0, none⟩), .int .i64 came, .int .i64 went] 99 (0, 0))
  map : HasMap w mb Flow.val ptrVal m
  maps : ∀ f p, (f, p) ∈ m ↔ ∃ e, (p, e) ∈ L ∧ e.flow = f
  len : m.length = L.length
  ring : ∃ nx pv, RingAt w r L nx pv
  nodup : (t :: mb :: r :: L.map Prod.fst).Nodup
  list : T.l = L.map Prod.snd

theorem TabAt.get {w : World} {t mb r : Nat} {L : List (Nat × Ent)} {m : List (Flow × Nat)} {T : FTab} (h : TabAt w t mb r L m T) {p : Nat} {e : Ent} (hp : (p, e) ∈ L) : aget m e.flow = some p := by
  obtain ⟨_, _, _, E⟩ := h.map
  exact aget_of_mem E.keys ((h.maps _ _).2 ⟨e, hp, rfl⟩)
theorem TabAt.miss {w : World} {t mb r : Nat} {L : List (Nat × Ent)} {m : List (Flow × Nat)} {T : FTab} (h : TabAt w t mb r L m T) {f : Flow} (hf : ∀ e ∈ T.l, e.flow ≠ f) : aget m f = none := by
  rw [aget_none]
  intro hc
  obtain ⟨⟨f', p⟩, hx, rfl⟩ := List.mem_map.1 hc
  obtain ⟨e, he, hef⟩ := (h.maps _ _).1 hx
  exact hf e (by rw [h.list]; exact List.mem_map.2 ⟨_, he, rfl⟩) hef

theorem link_cells {w : World} {p a b : Nat} {e : Ent} (h : w.heap[p]? = some (.cells (lnk e a b) 101 (0, 0))) :
    w.cell? ⟨p, 0, none⟩ = some (.int .i64 e.flow.proto) ∧ w.cell? ⟨p, 1, none⟩ = some (.int .u32 e.flow.src) ∧ w.cell? ⟨p, 2, none⟩ = some (.int .u32 e.flow.dst) ∧ w.cell? ⟨p, 3, none⟩ = some (.int .i64 e.flow.sport) ∧
    w.cell? ⟨p, 4, none⟩ = some (.int .i64 e.flow.dport) ∧ w.cell? ⟨p, 5, none⟩ = some (.int .i64 e.backend) ∧ w.cell? ⟨p, 6, none⟩ = some (.int .i64 e.last) ∧ w.cell? ⟨p, 7, none⟩ = some (.pointer (some ⟨a, 0, none⟩)) ∧ w.cell? ⟨p, 8, none⟩ = some (.pointer (some ⟨b, 0, none⟩)) :=
  ⟨cell_at h 0 rfl, cell_at h 1 rfl, cell_at h 2 rfl, cell_at h 3 rfl, cell_at h 4 rfl, cell_at h 5 rfl, cell_at h 6 rfl, cell_at h 7 rfl, cell_at h 8 rfl⟩

theorem tab_cells {w : World} {t mb r : Nat} {a b n c d : Int} (h : w.heap[t]? = some (.cells #[.int .i64 a, .int .i64 b, .int .i64 n, .map (some mb), .pointer (some ⟨r, 0, none⟩), .int .i64 c, .int .i64 d] 99 (0, 0))) :
    w.cell? ⟨t, 0, none⟩ = some (.int .i64 a) ∧ w.cell? ⟨t, 1, none⟩ = some (.int .i64 b) ∧ w.cell? ⟨t, 2, none⟩ = some (.int .i64 n) ∧ w.cell? ⟨t, 3, none⟩ = some (.map (some mb)) ∧ w.cell? ⟨t, 4, none⟩ = some (.pointer (some ⟨r, 0, none⟩)) ∧
    w.cell? ⟨t, 5, none⟩ = some (.int .i64 c) ∧ w.cell? ⟨t, 6, none⟩ = some (.int .i64 d) :=
  ⟨cell_at h 0 rfl, cell_at h 1 rfl, cell_at h 2 rfl, cell_at h 3 rfl, cell_at h 4 rfl, cell_at h 5 rfl, cell_at h 6 rfl⟩

theorem zero_plink (w : World) : (zeroValue 96).run Tryz.prog w = .ok (.pointer none) w := by kernel_rfl

/-- The table's map at a flow. -/
theorem look_flow {m : List (Flow × Nat)} {mb : Nat} (f : Flow) (W : World) (h : HasMap W mb Flow.val ptrVal m) :
    (Instr.lookup 97 (.map (some mb)) (.agg #[.int .i64 f.proto, .int .u32 f.src, .int .u32 f.dst, .int .i64 f.sport, .int .i64 f.dport]) false).run Tryz.prog W = .ok (((aget m f).map ptrVal).getD (.pointer none)) W :=
  HasMap.lookup flow_law Tryz.underlying97 zero_plink f h false

set_option maxHeartbeats 400000 in
theorem peek_hit {w : World} {t mb r : Nat} {L : List (Nat × Ent)} {m : List (Flow × Nat)} {T : FTab} (h : TabAt w t mb r L m T) {p : Nat} {e : Ent} (hp : (p, e) ∈ L) :
    Calls Tryz.prog 9 #[.pointer (some ⟨t, 0, none⟩), .agg #[.int .i64 e.flow.proto, .int .u32 e.flow.src, .int .u32 e.flow.dst, .int .i64 e.flow.sport, .int .i64 e.flow.dport]] w fun en w' =>
      en = .returned (.tuple #[.agg #[.int .i64 e.flow.proto, .int .u32 e.flow.src, .int .u32 e.flow.dst, .int .i64 e.flow.sport, .int .i64 e.flow.dport, .int .i64 e.backend, .int .i64 e.last], .bool true]) ∧ Fr [] w w' := by
  obtain ⟨c1, c2, ht⟩ := h.tab
  obtain ⟨nx, pv, hr⟩ := h.ring
  have hl := hr.link _ hp
  have hm := h.map
  have lk : ∀ W : World, HasMap W mb Flow.val ptrVal m → _ := fun W hW => look_flow e.flow W hW
  simp only [h.get hp, Option.map_some, Option.getD_some, ptrVal] at lk
  obtain ⟨_, _, _, t3, t4, _, _⟩ := tab_cells ht
  obtain ⟨l0, l1, l2, l3, l4, l5, l6, _, _⟩ := link_cells hl
  have hplt := lt_of hl
  have htlt := lt_of ht
  have hmlt := hm.lt
  clear ht hl hr h
  go_enter Tryz.func9, Tryz.ntmps9
  go_wp2
  go_quiet ((go_at_call 42; refine Calls.quiet_of_same (made_walk t r _ ?_); go_simp))
  go_wp2
  go_region
  all_goals go_wp2
  all_goals go_returns
  all_goals refine ⟨rfl, ?_⟩
  all_goals (repeat (first | (with_reducible exact Fr.refl _ _) | (with_reducible assumption) | (with_reducible refine Fr.drew ?_) | (with_reducible refine Fr.drewN ?_ _) | (with_reducible refine Fr.alloc ?_ _) | (with_reducible refine Fr.mput ?_ _ _ _ (.inl (by simp))) | (with_reducible refine Fr.mdel ?_ _ _ (.inl (by simp))) | (with_reducible refine Fr.set ?_ _ _ (.inr (by first | omega | (dsimp only; omega)))) | (with_reducible refine Fr.set ?_ _ _ (.inl (by simp)))))

set_option maxHeartbeats 400000 in
theorem peek_miss {w : World} {t mb r : Nat} {L : List (Nat × Ent)} {m : List (Flow × Nat)} {T : FTab} (h : TabAt w t mb r L m T) {f : Flow} (hf : ∀ e ∈ T.l, e.flow ≠ f) :
    Calls Tryz.prog 9 #[.pointer (some ⟨t, 0, none⟩), .agg #[.int .i64 f.proto, .int .u32 f.src, .int .u32 f.dst, .int .i64 f.sport, .int .i64 f.dport]] w fun en w' =>
      en = .returned (.tuple #[.agg #[.int .i64 0, .int .u32 0, .int .u32 0, .int .i64 0, .int .i64 0, .int .i64 0, .int .i64 0], .bool false]) ∧ Fr [] w w' := by
  obtain ⟨c1, c2, ht⟩ := h.tab
  have hm := h.map
  have lk : ∀ W : World, HasMap W mb Flow.val ptrVal m → _ := fun W hW => look_flow f W hW
  simp only [h.miss hf, Option.map_none, Option.getD_none] at lk
  obtain ⟨_, _, _, t3, t4, _, _⟩ := tab_cells ht
  have htlt := lt_of ht
  have hmlt := hm.lt
  clear ht hf h
  go_enter Tryz.func9, Tryz.ntmps9
  go_wp2
  go_quiet ((go_at_call 42; refine Calls.quiet_of_same (made_walk t r _ ?_); go_simp))
  go_wp2
  all_goals go_returns
  all_goals refine ⟨rfl, ?_⟩
  all_goals (repeat (first | (with_reducible exact Fr.refl _ _) | (with_reducible assumption) | (with_reducible refine Fr.drew ?_) | (with_reducible refine Fr.drewN ?_ _) | (with_reducible refine Fr.alloc ?_ _) | (with_reducible refine Fr.mput ?_ _ _ _ (.inl (by simp))) | (with_reducible refine Fr.mdel ?_ _ _ (.inl (by simp))) | (with_reducible refine Fr.set ?_ _ _ (.inr (by first | omega | (dsimp only; omega)))) | (with_reducible refine Fr.set ?_ _ _ (.inl (by simp)))))
end Go.Proofs.YthahlimmmnmniaaGreatDoor

namespace Go.Proofs.YthahlimmmnmniaaGreatDoor
open Go.RowKit Go.Fw

theorem adel_length {α β : Type} [DecidableEq α] {l : List (α × β)} {k : α} {v : β} (hn : (l.map Prod.fst).Nodup) (h : (k, v) ∈ l) : (adel l k).length + 1 = l.length := by
  induction l with
  | nil => cases h
  | cons x l ih =>
    rw [List.map_cons, List.nodup_cons] at hn
    rcases List.mem_cons.1 h with rfl | h
    · have : adel l k = l := by
        unfold adel
        rw [List.filter_eq_self]
        intro y hy
        simp
        exact fun e => hn.1 (e ▸ List.mem_map.2 ⟨y, hy, rfl⟩)
      show ((((k, v) :: l).filter _).length + 1) = _
      rw [List.filter_cons_of_neg (by simp)]
      have h2 : (l.filter fun p => decide (p.1 ≠ k)) = l := this
      rw [h2]; rfl
    · have hne : x.1 ≠ k := fun e => hn.1 (e ▸ List.mem_map.2 ⟨_, h, rfl⟩)
      have := ih hn.2 h
      show (((x :: l).filter _).length + 1) = _
      rw [List.filter_cons_of_pos (by simp [hne])]
      simp only [List.length_cons]
      have h2 : (l.filter fun p => decide (p.1 ≠ k)).length + 1 = l.length := this
      omega

section
variable {w w' : World} {t mb r : Nat} {L : List (Nat × Ent)} {m : List (Flow × Nat)} {T : FTab}

theorem TabAt.uniq (h : TabAt w t mb r L m T) {p q : Nat} {e e' : Ent} (hp : (p, e) ∈ L) (hq : (q, e') ∈ L) (hf : e.flow = e'.flow) : p = q ∧ e = e' := by
  have h1 := h.get hp
  have h2 := h.get hq
  rw [hf, h2] at h1
  obtain rfl := (Option.some.inj h1).symm
  refine ⟨rfl, ?_⟩
  have hn : (L.map Prod.fst).Nodup := by
    have := h.nodup
    simp only [List.nodup_cons] at this
    exact this.2.2.2
  have := aget_of_mem hn hp
  rw [aget_of_mem hn hq] at this
  exact (Option.some.inj this).symm

theorem TabAt.keep (h : TabAt w t mb r L m T) (hb : ∀ q ∈ t :: mb :: r :: L.map Prod.fst, w'.heap[q]? = w.heap[q]?) : TabAt w' t mb r L m T where
  tab := by
    obtain ⟨a, b, ht⟩ := h.tab
    exact ⟨a, b, (hb t (by simp)).trans ht⟩
  map := h.map.of_block (hb mb (by simp))
  maps := h.maps
  len := h.len
  ring := by
    obtain ⟨nx, pv, hr⟩ := h.ring
    exact ⟨nx, pv, hr.keep fun q hq => hb q (List.mem_cons_of_mem _ (List.mem_cons_of_mem _ hq))⟩
  nodup := h.nodup
  list := h.list

/-- Every block of the table is there. -/
theorem TabAt.lt (h : TabAt w t mb r L m T) : ∀ q ∈ t :: mb :: r :: L.map Prod.fst, q < w.heap.size := by
  intro q hq
  obtain ⟨a, b, ht⟩ := h.tab
  obtain ⟨nx, pv, hr⟩ := h.ring
  rcases List.mem_cons.1 hq with rfl | hq
  · exact lt_of ht
  · rcases List.mem_cons.1 hq with rfl | hq
    · exact h.map.lt
    · obtain ⟨e, he⟩ := hr.node hq
      exact lt_of he
end

/-- Behind 'gone': the table without p; p's own block as it was. -/
def GonePost (w : World) (t mb r p : Nat) (L L' : List (Nat × Ent)) (m' : List (Flow × Nat)) (T : FTab) (w' : World) : Prop :=
  TabAt w' t mb r L' m' { T with l := L'.map Prod.snd } ∧ w'.heap[p]? = w.heap[p]? ∧ Fr (t :: mb :: r :: L.map Prod.fst) w w' ∧ w'.heap.size = w.heap.size

theorem del_flow {m : List (Flow × Nat)} {mb : Nat} (f : Flow) (rt : TypeId) (W : World) (h : HasMap W mb Flow.val ptrVal m) :
    (Builtin.delete_ #[97, 31] rt #[.map (some mb), .agg #[.int .i64 f.proto, .int .u32 f.src, .int .u32 f.dst, .int .i64 f.sport, .int .i64 f.dport]]).run Tryz.prog W =
      .ok (.tuple #[]) (W.mdel mb (.agg #[.int .i64 f.proto, .int .u32 f.src, .int .u32 f.dst, .int .i64 f.sport, .int .i64 f.dport])) :=
  HasMap.delete flow_law Tryz.underlying97 f h rfl

set_option maxHeartbeats 400000 in
theorem gone_tab {w : World} {t mb r p : Nat} {e : Ent} {xs ys : List (Nat × Ent)} {m : List (Flow × Nat)} {T : FTab} (h : TabAt w t mb r (xs ++ (p, e) :: ys) m T) :
    Calls Tryz.prog 87 #[.pointer (some ⟨t, 0, none⟩), .pointer (some ⟨p, 0, none⟩)] w fun en w' => en = .returned (.tuple #[]) ∧ GonePost w t mb r p (xs ++ (p, e) :: ys) (xs ++ ys) (adel m e.flow) T w' := by
  obtain ⟨c1, c2, ht⟩ := h.tab
  obtain ⟨nx, pv, hr⟩ := h.ring
  have hnd := h.nodup
  have hlp := hr.link (p, e) (by simp)
  simp only [List.nodup_cons] at hnd
  obtain ⟨n1, n2, n3, n4⟩ := hnd
  have htr : t ∉ r :: (xs ++ (p, e) :: ys).map Prod.fst := fun hc => n1 (List.mem_cons_of_mem _ hc)
  have hpm : p ∈ (xs ++ (p, e) :: ys).map Prod.fst := by simp
  go_enter Tryz.func87, Tryz.ntmps87
  go_wp2_with fail
  refine (out_ring hr).mono ?_
  rintro en w1 ⟨rfl, hring, hp1, hfr, hsz⟩
  have ht1 := hfr.keep ht htr
  have hl1 := hp1.trans hlp
  have hm1 := h.map.keep hfr n2
  have dl := fun (rt : TypeId) (W : World) (hW : HasMap W mb Flow.val ptrVal m) => del_flow e.flow rt W hW
  obtain ⟨_, _, _, t3, t4, _, _⟩ := tab_cells ht1
  obtain ⟨l0, l1, l2, l3, l4, _, _, _, _⟩ := link_cells hl1
  have H0 := Lib.hid (And.intro hp1 (And.intro hring (And.intro ht1 (And.intro hl1 (And.intro ht hlp)))))
  clear hp1 hring ht1 hl1 ht hlp
  go_wp2
  go_region
  all_goals go_returns
  all_goals obtain ⟨hp1, ⟨nx', pv', hring⟩, ht1, hl1, ht, hlp⟩ := H0.out
  all_goals refine ⟨rfl, ⟨⟨c1, c2, ?_⟩, HasMap.del Flow.val_inj e.flow hm1, ?_, ?_, ⟨nx', pv', hring.keep ?_⟩, ?_, rfl⟩, ?_, ?_, ?_⟩
  · rw [heap_mdel_ne _ _ _ (fun e : t = mb => n1 (by simp [e]))]
    exact ht1
  · intro f q
    rw [mem_adel, h.maps]
    constructor
    · rintro ⟨⟨e', h1, h2⟩, h3⟩
      refine ⟨e', ?_, h2⟩
      rcases List.mem_append.1 h1 with h4 | h4
      · exact List.mem_append_left _ h4
      · rcases List.mem_cons.1 h4 with h5 | h5
        · obtain ⟨rfl, rfl⟩ := Prod.mk.inj h5
          exact absurd h2.symm h3
        · exact List.mem_append_right _ h5
    · rintro ⟨e', h1, h2⟩
      have h3 : (q, e') ∈ xs ++ (p, e) :: ys := by
        rcases List.mem_append.1 h1 with h4 | h4
        · exact List.mem_append_left _ h4
        · exact List.mem_append_right _ (List.mem_cons_of_mem _ h4)
      refine ⟨⟨e', h3, h2⟩, fun hc => ?_⟩
      obtain ⟨rfl, rfl⟩ := h.uniq h3 (by simp : (p, e) ∈ _) (h2.trans hc)
      simp only [List.map_append, List.map_cons] at n4
      have n5 := List.nodup_append.1 n4
      rcases List.mem_append.1 h1 with h4 | h4
      · exact n5.2.2 q (List.mem_map.2 ⟨_, h4, rfl⟩) q (by simp) rfl
      · exact (List.nodup_cons.1 n5.2.1).1 (List.mem_map.2 ⟨_, h4, rfl⟩)
  · obtain ⟨_, _, _, E⟩ := h.map
    have h1 := adel_length E.keys ((h.maps e.flow p).2 ⟨e, by simp, rfl⟩)
    have h2 := h.len
    simp only [List.length_append, List.length_cons] at h2 ⊢
    omega
  · intro q hq
    rw [heap_mdel_ne _ _ _ (fun e1 : q = mb => n2 (by
      rw [← e1]
      simp only [List.map_append, List.map_cons, List.mem_cons, List.mem_append] at hq ⊢
      rcases hq with h1 | h1 | h1
      · exact .inl h1
      · exact .inr (.inl h1)
      · exact .inr (.inr (.inr h1))))]
    rfl
  · have hs : (t :: mb :: r :: (xs ++ ys).map Prod.fst).Sublist (t :: mb :: r :: (xs ++ (p, e) :: ys).map Prod.fst) := by simp
    exact h.nodup.sublist hs
  · rw [heap_mdel_ne _ _ _ (fun e1 : p = mb => n2 (by rw [← e1]; exact List.mem_cons_of_mem _ hpm))]
    exact hp1
  · exact ((hfr.mono (fun x hx => .inl (by simp at hx ⊢; exact .inr (.inr hx)))).drew).mdel mb _ (.inl (by simp))
  · simp [hsz]
end Go.Proofs.YthahlimmmnmniaaGreatDoor

namespace Go.Proofs.YthahlimmmnmniaaGreatDoor
open Go.RowKit Go.Fw

section
variable {w w' : World} {t mb r : Nat} {L : List (Nat × Ent)} {m : List (Flow × Nat)} {T : FTab}

theorem TabAt.time (h : TabAt w t mb r L m T) (n : Int) : TabAt (w.setCell ⟨t, 2, none⟩ (.int .i64 n)) t mb r L m { T with now := n } where
  tab := by
    obtain ⟨a, b, ht⟩ := h.tab
    refine ⟨a, b, ?_⟩
    rw [heap_set ht]
    rfl
  map := by
    have := h.map
    rw [hasMap_setCell]
    exact this
  maps := h.maps
  len := h.len
  ring := by
    obtain ⟨nx, pv, hr⟩ := h.ring
    refine ⟨nx, pv, hr.keep fun q hq => heap_set_ne _ _ _ (fun e => ?_)⟩
    have := h.nodup
    rw [List.nodup_cons] at this
    subst e
    exact this.1 (List.mem_cons_of_mem _ hq)
  nodup := h.nodup
  list := h.list

theorem TabAt.nin (h : TabAt w t mb r L m T) {k : Nat} (hk : w.heap.size ≤ k) : k ∉ t :: mb :: r :: L.map Prod.fst := fun hc => by have := h.lt k hc; omega
theorem TabAt.nin' (h : TabAt w t mb r L m T) {k : Nat} (hk : w.heap.size ≤ k) : k ∉ r :: L.map Prod.fst := fun hc => h.nin hk (List.mem_cons_of_mem _ (List.mem_cons_of_mem _ hc))
theorem TabAt.alloc (h : TabAt w t mb r L m T) (o : Obj) : TabAt (w.alloc o) t mb r L m T := h.keep fun q hq => heap_old w o (h.lt q hq)
theorem TabAt.drew (h : TabAt w t mb r L m T) : TabAt w.drew t mb r L m T := h.keep fun _ _ => rfl
theorem TabAt.drewN (h : TabAt w t mb r L m T) (n : Nat) : TabAt (w.drewN n) t mb r L m T := h.keep fun _ _ => rfl
theorem TabAt.fr {S : List Nat} (h : TabAt w t mb r L m T) (hf : Fr S w w') (hS : ∀ q ∈ t :: mb :: r :: L.map Prod.fst, q ∉ S) : TabAt w' t mb r L m T :=
  h.keep fun q hq => hf.block q (h.lt q hq) (hS q hq)
end

theorem out_tab {w : World} {t mb r p : Nat} {e : Ent} {xs ys : List (Nat × Ent)} {m : List (Flow × Nat)} {T : FTab} (h : TabAt w t mb r (xs ++ (p, e) :: ys) m T) :
    Calls Tryz.prog 71 #[.pointer (some ⟨p,0,none⟩)] w fun en w' => en = .returned (.tuple #[]) ∧ OutPost w r p (xs ++ (p, e) :: ys) (xs ++ ys) w' := by
  obtain ⟨nx, pv, hr⟩ := h.ring
  exact out_ring hr

theorem entry_cells {w : World} {b : Nat} {a1 a2 a3 a4 a5 a6 a7 : Value} (h : w.heap[b]? = some (.cells #[a1, a2, a3, a4, a5, a6, a7] 49 (0, 0))) :
    (w.cell? ⟨b, 0, none⟩ = some a1 ∧ w.cell? ⟨b, 1, none⟩ = some a2 ∧ w.cell? ⟨b, 2, none⟩ = some a3 ∧ w.cell? ⟨b, 3, none⟩ = some a4 ∧ w.cell? ⟨b, 4, none⟩ = some a5 ∧ w.cell? ⟨b, 5, none⟩ = some a6 ∧ w.cell? ⟨b, 6, none⟩ = some a7) ∧
    (w.frozen? ⟨b, 0, none⟩ = false ∧ w.frozen? ⟨b, 1, none⟩ = false ∧ w.frozen? ⟨b, 2, none⟩ = false ∧ w.frozen? ⟨b, 3, none⟩ = false ∧ w.frozen? ⟨b, 4, none⟩ = false ∧ w.frozen? ⟨b, 5, none⟩ = false ∧ w.frozen? ⟨b, 6, none⟩ = false) :=
  ⟨⟨cell_at h 0 rfl, cell_at h 1 rfl, cell_at h 2 rfl, cell_at h 3 rfl, cell_at h 4 rfl, cell_at h 5 rfl, cell_at h 6 rfl⟩, free_at h 0, free_at h 1, free_at h 2, free_at h 3, free_at h 4, free_at h 5, free_at h 6⟩

def zeroEntry : Obj := .cells #[.int .i64 0, .int .u32 0, .int .u32 0, .int .i64 0, .int .i64 0, .int .i64 0, .int .i64 0] 49 (0, 0)

def PutPost (w : World) (t mb r : Nat) (L L' : List (Nat × Ent)) (m' : List (Flow × Nat)) (T' : FTab) (en : Ending) (w' : World) : Prop :=
  (∃ v, en = .returned v) ∧ TabAt w' t mb r L' m' T' ∧ (∀ x ∈ L'.map Prod.fst, x ∈ L.map Prod.fst ∨ w.heap.size ≤ x) ∧ Fr (t :: mb :: r :: L.map Prod.fst) w w'

set_option maxHeartbeats 800000 in
theorem put_hit {w : World} {t mb r p : Nat} {e : Ent} {xs ys : List (Nat × Ent)} {m : List (Flow × Nat)} {T : FTab} (h : TabAt w t mb r (xs ++ (p, e) :: ys) m T) (b now : Int) :
    Calls Tryz.prog 35 #[.pointer (some ⟨t, 0, none⟩), .agg #[.int .i64 e.flow.proto, .int .u32 e.flow.src, .int .u32 e.flow.dst, .int .i64 e.flow.sport, .int .i64 e.flow.dport], .int .i64 b, .int .i64 now] w
      (PutPost w t mb r (xs ++ (p, e) :: ys) (xs ++ ys ++ [(p, ⟨e.flow, b, max T.now now⟩)]) m ⟨T.room, T.idle, max T.now now, (xs ++ ys).map Prod.snd ++ [⟨e.flow, b, max T.now now⟩]⟩) := by
  obtain ⟨c1, c2, ht⟩ := h.tab
  have hm := h.map
  have lk : ∀ W : World, HasMap W mb Flow.val ptrVal m → _ := fun W hW => look_flow e.flow W hW
  simp only [h.get (by simp : (p, e) ∈ xs ++ (p, e) :: ys), Option.map_some, Option.getD_some, ptrVal] at lk
  obtain ⟨_, _, t2, t3, t4, _, _⟩ := tab_cells ht
  have f2 := free_at ht 2
  obtain ⟨htl0, htl1, htl2, htl3, _, _⟩ := lts (lt_of ht)
  obtain ⟨hml0, hml1, hml2, hml3, _, _⟩ := lts hm.lt
  have HT := Lib.hid ht
  clear ht
  go_enter Tryz.func35, Tryz.ntmps35
  go_wp2_with (first
    | (go_at_call 42; refine (made_walk t r _ ?_).mono ?_; (go_simp); rintro en w1 ⟨rfl, rfl⟩)
    | (go_at_call 69; refine (time_walk t T.now now _ ?_ ?_).mono ?_; (go_simp); (go_simp); rintro en w1 ⟨rfl, rfl⟩))
  go_quiet (fail)
  go_wp2_with fail
  have h0 := fun A B C => (((((h.time (max T.now now)).alloc A).alloc B).alloc C).drewN nq)
  refine (out_tab (h0 _ _ _)).mono ?_
  rintro en w1 ⟨rfl, hring, hp1, hfr, hsz⟩
  have hB := hfr.keep (k := w.heap.size + 1) (o := zeroEntry) (by (try simp only [heap_drewN, heap_drew, heap_alloc_if, World.size_alloc, World.size_setCell, size_mput, size_mdel]); (first | (simp; done) | (simp [zeroEntry]; done) | (simp; omega) | (simp [zeroEntry]; omega))) (h.nin' (by omega))
  have hC := hfr.keep (k := w.heap.size + 1 + 1) (o := zeroEntry) (by (try simp only [heap_drewN, heap_drew, heap_alloc_if, World.size_alloc, World.size_setCell, size_mput, size_mdel]); (first | (simp; done) | (simp [zeroEntry]; done) | (simp; omega) | (simp [zeroEntry]; omega))) (h.nin' (by omega))
  have hT := h.time (max T.now now)
  have hF := (((((Fr.refl (r :: (xs ++ (p, e) :: ys).map Prod.fst) (w.setCell ⟨t, 2, none⟩ (.int .i64 (max T.now now)))).alloc _).alloc _).alloc _).drewN nq).trans hfr (fun x hx => .inl hx)
  obtain ⟨c1, c2, htT⟩ := hT.tab
  obtain ⟨nx, pv, hrT⟩ := hT.ring
  have hlT := hrT.link (p, e) (by simp)
  have hl1 := hp1.trans (((((Fr.refl [] (w.setCell ⟨t, 2, none⟩ (.int .i64 (max T.now now)))).alloc _).alloc _).alloc _).drewN nq |>.keep hlT (by simp))
  have hnd := h.nodup
  simp only [List.nodup_cons] at hnd
  obtain ⟨n1, n2, n3, n4⟩ := hnd
  have htr : t ∉ r :: (xs ++ (p, e) :: ys).map Prod.fst := fun hc => n1 (List.mem_cons_of_mem _ hc)
  have ht1 := hF.keep htT htr
  have hm1 := hT.map.keep hF n2
  obtain ⟨nx1, pv1, hring1⟩ := hring
  have hsub : ∀ q, q ∈ r :: (xs ++ ys).map Prod.fst → q ∈ r :: (xs ++ (p, e) :: ys).map Prod.fst := by
    intro q hq
    simp only [List.map_append, List.map_cons, List.mem_cons, List.mem_append] at hq ⊢
    rcases hq with h1 | h1 | h1
    · exact .inl h1
    · exact .inr (.inl h1)
    · exact .inr (.inr (.inr h1))
  have hpn : p ∉ r :: (xs ++ ys).map Prod.fst := by
    have h2 : (xs.map Prod.fst ++ p :: ys.map Prod.fst).Nodup := by simpa using n4
    have h3 := List.nodup_append.1 h2
    intro hc
    simp only [List.map_append, List.mem_cons, List.mem_append] at hc
    rcases hc with h1 | h1 | h1
    · exact n3 (by simp [← h1])
    · exact h3.2.2 p h1 p (by simp) rfl
    · exact (List.nodup_cons.1 h3.2.1).1 h1
  have hpm : p ∈ r :: (xs ++ (p, e) :: ys).map Prod.fst := by simp
  have htp : t ≠ p := fun e1 => htr (e1 ▸ hpm)
  have hmp : mb ≠ p := fun e1 => n2 (e1 ▸ hpm)
  obtain ⟨_, _, _, _, _, l5, _, _, _⟩ := link_cells hl1
  have lf5 := free_at hl1 5
  obtain ⟨_, _, t2', _, t4', _, _⟩ := tab_cells ht1
  have HH := Lib.hid (And.intro hp1 (And.intro hl1 (And.intro ht1 (And.intro htT (And.intro hlT (And.intro hB hC))))))
  clear hp1 hl1 ht1 htT hlT hB hC lk t2 t3 t4 f2
  have hsz' : w1.heap.size = w.heap.size + 3 := by rw [hsz]; simp
  clear hsz
  have HS := Lib.hid hsz'
  clear hsz'
  go_wp2_with fail
  obtain ⟨hp1, hl1, ht1, htT, hlT, hB, hC⟩ := HH.out
  have hl2 : (w1.setCell ⟨p, 5, none⟩ (.int .i64 b)).heap[p]? = some (.cells (lnk ⟨e.flow, b, e.last⟩ (pv p) (nx p)) 101 (0, 0)) := by
    rw [heap_set hl1]; rfl
  refine (last_ring (t := t) (r := r) (n := max T.now now) (L := xs ++ ys) (hring1.keep fun q hq => heap_set_ne _ _ _ (fun e1 : q = p => hpn (e1 ▸ hq))) hl2 ?_ ?_ hpn ?_).mono ?_
  · rw [World.cell?_setCell_other _ _ _ _ (fun e1 => htp (congrArg Addr.block e1).symm)]; exact t2'
  · rw [World.cell?_setCell_other _ _ _ _ (fun e1 => htp (congrArg Addr.block e1).symm)]; exact t4'
  · intro hc
    rcases List.mem_cons.1 hc with h1 | h1
    · exact htp h1
    · exact htr (hsub _ h1)
  rintro en w2 ⟨rfl, hring2, hfr2, hsz2⟩
  have hfr2' : Fr (p :: r :: (xs ++ ys).map Prod.fst) w1 w2 := ((Fr.refl _ w1).set _ _ (.inl (by simp))).trans hfr2 (fun x hx => .inl hx)
  have hsz := HS.out
  have hlt := h.lt
  have nb : ∀ k, w.heap.size ≤ k → k ∉ p :: r :: (xs ++ ys).map Prod.fst := fun k hk hc => by
    rcases List.mem_cons.1 hc with h1 | h1
    · exact h.nin' hk (h1 ▸ hpm)
    · exact h.nin' hk (hsub _ h1)
  have hB2 := hfr2'.keep hB (nb _ (by omega))
  have hC2 := hfr2'.keep hC (nb _ (by omega))
  have htpr : t ∉ p :: r :: (xs ++ ys).map Prod.fst := fun hc => by
    rcases List.mem_cons.1 hc with h1 | h1
    · exact htp h1
    · exact htr (hsub _ h1)
  have hmpr : mb ∉ p :: r :: (xs ++ ys).map Prod.fst := fun hc => by
    rcases List.mem_cons.1 hc with h1 | h1
    · exact hmp h1
    · exact n2 (hsub _ h1)
  have ht2 := hfr2'.keep ht1 htpr
  have hm2 := hm1.keep hfr2' hmpr
  have hTab : TabAt w2 t mb r (xs ++ ys ++ [(p, ⟨e.flow, b, max T.now now⟩)]) m ⟨T.room, T.idle, max T.now now, (xs ++ ys).map Prod.snd ++ [⟨e.flow, b, max T.now now⟩]⟩ := by
    refine ⟨⟨c1, c2, ht2⟩, hm2, ?_, ?_, hring2, ?_, ?_⟩
    · intro f q
      rw [h.maps]
      constructor
      · rintro ⟨e', h1, h2⟩
        rcases List.mem_append.1 h1 with h3 | h3
        · exact ⟨e', by simp [h3], h2⟩
        · rcases List.mem_cons.1 h3 with h4 | h4
          · obtain ⟨rfl, rfl⟩ := Prod.mk.inj h4
            exact ⟨_, List.mem_append_right _ (List.mem_singleton.2 rfl), h2⟩
          · exact ⟨e', by simp [h4], h2⟩
      · rintro ⟨e', h1, h2⟩
        rcases List.mem_append.1 h1 with h3 | h3
        · rcases List.mem_append.1 h3 with h4 | h4
          · exact ⟨e', by simp [h4], h2⟩
          · exact ⟨e', by simp [h4], h2⟩
        · obtain ⟨rfl, rfl⟩ := Prod.mk.inj (List.mem_singleton.1 h3)
          exact ⟨e, by simp, h2⟩
    · have := h.len
      simp at this ⊢
      omega
    · have hperm : (t :: mb :: r :: (xs ++ ys ++ [(p, (⟨e.flow, b, max T.now now⟩ : Ent))]).map Prod.fst).Perm (t :: mb :: r :: (xs ++ (p, e) :: ys).map Prod.fst) := by
        refine ((List.Perm.cons _ (List.Perm.cons _ (List.Perm.cons _ ?_))))
        simp only [List.map_append, List.map_cons, List.map_nil, List.append_assoc]
        exact List.Perm.append_left _ (List.perm_append_comm)
      exact hperm.nodup_iff.2 h.nodup
    · simp
  obtain ⟨⟨b0, b1, b2, b3, b4, b5, b6⟩, g0, g1, g2, g3, g4, g5, g6⟩ := entry_cells hB2
  obtain ⟨⟨d0, d1, d2, d3, d4, d5, d6⟩, _⟩ := entry_cells hC2
  have HH2 := Lib.hid (And.intro hl2 (And.intro hTab (And.intro hfr2' hF)))
  clear hp1 hl1 ht1 htT hlT hB hC hB2 hC2 ht2 hm2 hTab hring2 hfr2 hring1 hl2 hsz hsz2
  go_wp2
  refine bodyPost_ret (v := .tuple #[.agg #[.int .i64 0, .int .u32 0, .int .u32 0, .int .i64 0, .int .i64 0, .int .i64 0, .int .i64 0], .bool false]) (by simp [results, Tryz.results35, go_sem, b0, b1, b2, b3, b4, b5, b6]) rfl ?_
  obtain ⟨hl2, hTab, hfr2', hF⟩ := HH2.out
  refine ⟨⟨_, rfl⟩, ?_, ?_, ?_⟩
  · refine hTab.keep fun q hq => ?_
    have hq' : q ≠ w.heap.size + 1 := by
      have : q < w.heap.size := by
        refine hlt q ?_
        simp only [List.map_append, List.map_cons, List.map_nil, List.mem_cons, List.mem_append, List.append_assoc] at hq ⊢
        rcases hq with h1 | h1 | h1 | h1 | h1 | h1 | h1
        · exact .inl h1
        · exact .inr (.inl h1)
        · exact .inr (.inr (.inl h1))
        · exact .inr (.inr (.inr (.inl h1)))
        · exact .inr (.inr (.inr (.inr (.inr h1))))
        · exact .inr (.inr (.inr (.inr (.inl h1))))
        · cases h1
      omega
    iterate 7 rw [heap_set_ne _ _ _ hq']
  · intro x hx
    refine .inl ?_
    simp only [List.map_append, List.map_cons, List.map_nil, List.mem_cons, List.mem_append, List.append_assoc] at hx ⊢
    rcases hx with h1 | h1 | h1 | h1
    · exact .inl h1
    · exact .inr (.inr h1)
    · exact .inr (.inl h1)
    · cases h1
  · have h1 : Fr (t :: mb :: r :: (xs ++ (p, e) :: ys).map Prod.fst) w w2 := by
      refine (((Fr.refl _ w).set _ _ (.inl (by simp))).trans hF (fun x hx => .inl ?_)).trans hfr2' (fun x hx => .inl ?_)
      · exact List.mem_cons_of_mem _ (List.mem_cons_of_mem _ hx)
      · refine List.mem_cons_of_mem _ (List.mem_cons_of_mem _ ?_)
        rcases List.mem_cons.1 hx with h1 | h1
        · exact h1 ▸ hpm
        · exact hsub _ h1
    (repeat (first | (with_reducible exact Fr.refl _ _) | (with_reducible assumption) | (with_reducible refine Fr.drew ?_) | (with_reducible refine Fr.drewN ?_ _) | (with_reducible refine Fr.alloc ?_ _) | (with_reducible refine Fr.mput ?_ _ _ _ (.inl (by simp))) | (with_reducible refine Fr.mdel ?_ _ _ (.inl (by simp))) | (with_reducible refine Fr.set ?_ _ _ (.inr (by first | omega | (dsimp only; omega)))) | (with_reducible refine Fr.set ?_ _ _ (.inl (by simp)))))
end Go.Proofs.YthahlimmmnmniaaGreatDoor

namespace Go.Proofs.YthahlimmmnmniaaGreatDoor
open Go.RowKit Go.Fw

def spared (L : List (Nat × Ent)) (room : Int) : List (Nat × Ent) := if (L.length : Int) < room then L else L.tail

def SparePost (w : World) (t mb r : Nat) (L : List (Nat × Ent)) (T : FTab) (en : Ending) (w' : World) : Prop :=
  ∃ (e : Ent) (bo : Bool) (m' : List (Flow × Nat)), en = .returned (.tuple #[.agg #[.int .i64 e.flow.proto, .int .u32 e.flow.src, .int .u32 e.flow.dst, .int .i64 e.flow.sport, .int .i64 e.flow.dport, .int .i64 e.backend, .int .i64 e.last], .bool bo]) ∧
    TabAt w' t mb r (spared L T.room) m' { T with l := (spared L T.room).map Prod.snd } ∧ Fr (t :: mb :: r :: L.map Prod.fst) w w'

theorem len_flow {m : List (Flow × Nat)} {mb : Nat} (rt : TypeId) (W : World) (h : HasMap W mb Flow.val ptrVal m) :
    (Builtin.len_ #[97] rt #[.map (some mb)]).run Tryz.prog W = .ok (.int .i64 m.length) W := HasMap.len Tryz.underlying97 h rfl

set_option maxHeartbeats 400000 in
theorem spare_room {w : World} {t mb r : Nat} {L : List (Nat × Ent)} {m : List (Flow × Nat)} {T : FTab} (h : TabAt w t mb r L m T) (hr : (L.length : Int) < T.room) :
    Calls Tryz.prog 70 #[.pointer (some ⟨t, 0, none⟩)] w (SparePost w t mb r L T) := by
  obtain ⟨c1, c2, ht⟩ := h.tab
  have hm := h.map
  have ln := fun (rt : TypeId) (W : World) (hW : HasMap W mb Flow.val ptrVal m) => len_flow rt W hW
  obtain ⟨t0, _, _, t3, t4, _, t6⟩ := tab_cells ht
  obtain ⟨htl0, htl1, htl2, htl3, _, _⟩ := lts (lt_of ht)
  have hlen := h.len
  have hdec : decide ((m.length : Int) < T.room) = true := by rw [hlen]; exact decide_eq_true hr
  clear ht
  have HL := Lib.hid hlen
  clear hlen
  go_enter Tryz.func70, Tryz.ntmps70
  go_wp2
  go_quiet (fail)
  go_wp2
  go_returns
  refine ⟨⟨⟨0, 0, 0, 0, 0⟩, 0, 0⟩, false, m, rfl, ?_, ?_⟩
  · have hs : spared L T.room = L := if_pos hr
    rw [hs]
    have h1 : TabAt w t mb r L m { T with l := L.map Prod.snd } := by rw [← h.list]; exact h
    refine h1.fr (S := []) ?_ (by simp)
    (repeat (first | (with_reducible exact Fr.refl _ _) | (with_reducible assumption) | (with_reducible refine Fr.drew ?_) | (with_reducible refine Fr.drewN ?_ _) | (with_reducible refine Fr.alloc ?_ _) | (with_reducible refine Fr.mput ?_ _ _ _ (.inl (by simp))) | (with_reducible refine Fr.mdel ?_ _ _ (.inl (by simp))) | (with_reducible refine Fr.set ?_ _ _ (.inr (by first | omega | (dsimp only; omega)))) | (with_reducible refine Fr.set ?_ _ _ (.inl (by simp)))))
  · (repeat (first | (with_reducible exact Fr.refl _ _) | (with_reducible assumption) | (with_reducible refine Fr.drew ?_) | (with_reducible refine Fr.drewN ?_ _) | (with_reducible refine Fr.alloc ?_ _) | (with_reducible refine Fr.mput ?_ _ _ _ (.inl (by simp))) | (with_reducible refine Fr.mdel ?_ _ _ (.inl (by simp))) | (with_reducible refine Fr.set ?_ _ _ (.inr (by first | omega | (dsimp only; omega)))) | (with_reducible refine Fr.set ?_ _ _ (.inl (by simp)))))

set_option maxHeartbeats 400000 in
theorem spare_full {w : World} {t mb r : Nat} {p : Nat} {e : Ent} {ys : List (Nat × Ent)} {m : List (Flow × Nat)} {T : FTab} (h : TabAt w t mb r ((p, e) :: ys) m T) (hr : ¬ (((p, e) :: ys).length : Int) < T.room) :
    Calls Tryz.prog 70 #[.pointer (some ⟨t, 0, none⟩)] w (SparePost w t mb r ((p, e) :: ys) T) := by
  obtain ⟨c1, c2, ht⟩ := h.tab
  have hm := h.map
  have ln := fun (rt : TypeId) (W : World) (hW : HasMap W mb Flow.val ptrVal m) => len_flow rt W hW
  obtain ⟨nx, pv, hring⟩ := h.ring
  have hlp := hring.link (p, e) (by simp)
  obtain ⟨e0, hroot⟩ := hring.root
  have hnx : nx r = p := by have := ring_first hring.ring; simpa using this
  rw [hnx] at hroot
  have hlen := h.len
  have hdec : decide ((m.length : Int) < T.room) = false := by rw [hlen]; exact decide_eq_false hr
  obtain ⟨t0, _, _, t3, t4, _, t6⟩ := tab_cells ht
  obtain ⟨_, _, _, _, _, _, _, _, r8⟩ := link_cells hroot
  obtain ⟨htl0, htl1, htl2, htl3, _, _⟩ := lts (lt_of ht)
  obtain ⟨hrl0, hrl1, hrl2, hrl3, _, _⟩ := lts (lt_of hroot)
  have HL := Lib.hid (And.intro hlen (And.intro hnx (And.intro hroot (And.intro ht hlp))))
  clear hlen hnx hroot ht hlp
  go_enter Tryz.func70, Tryz.ntmps70
  go_wp2
  go_quiet (fail)
  go_wp2_with fail
  have h0 := fun A => ((h.alloc A).drewN nq)
  have hgone := fun A => gone_tab (xs := []) (h0 A)
  refine (hgone _).mono ?_
  rintro en w1 ⟨rfl, hTab, hp1, hfr, hsz⟩
  obtain ⟨hlen, hnx, hroot, ht, hlp⟩ := HL.out
  have hB := hfr.keep (k := w.heap.size) (o := zeroEntry) (by (try simp only [heap_drewN, heap_drew, heap_alloc_if, World.size_alloc, World.size_setCell, size_mput, size_mdel]); (first | (simp; done) | (simp [zeroEntry]; done) | (simp; omega) | (simp [zeroEntry]; omega))) (h.nin (by omega))
  have hl1 := hp1.trans ((((Fr.refl [] w).alloc _).drewN nq).keep hlp (by simp))
  obtain ⟨b1, b2, ht1⟩ := hTab.tab
  obtain ⟨t0', _, _, _, _, _, t6'⟩ := tab_cells ht1
  have tf6 := free_at ht1 6
  obtain ⟨l0, l1, l2, l3, l4, l5, l6, _, _⟩ := link_cells hl1
  obtain ⟨⟨d0, d1, d2, d3, d4, d5, d6⟩, g0, g1, g2, g3, g4, g5, g6⟩ := entry_cells hB
  have hF := (((Fr.refl (t :: mb :: r :: ((p, e) :: ys).map Prod.fst) w).alloc _).drewN nq).trans hfr (fun x hx => .inl hx)
  have htB : t ≠ w.heap.size := by omega
  have hpB : p ≠ w.heap.size := by have := h.lt p (by simp); omega
  have htp : t ≠ p := by have := h.nodup; intro e1; rw [e1] at this; simp at this
  have HH := Lib.hid (And.intro hTab (And.intro hF (And.intro ht1 hsz)))
  clear hlen hnx hroot ht hlp hp1 hl1 hTab hF hB ht1 hsz
  go_wp2
  refine bodyPost_ret (v := .tuple #[.agg #[.int .i64 e.flow.proto, .int .u32 e.flow.src, .int .u32 e.flow.dst, .int .i64 e.flow.sport, .int .i64 e.flow.dport, .int .i64 e.backend, .int .i64 e.last], .bool true]) (by simp [results, Tryz.results70, go_sem, d0, d1, d2, d3, d4, d5, d6]) rfl ?_
  obtain ⟨hTab, hF, ht1, hsz⟩ := HH.out
  have hs : spared ((p, e) :: ys) T.room = ys := if_neg (by omega)
  refine ⟨e, true, adel m e.flow, rfl, ?_, ?_⟩
  · rw [hs]
    have hTab' : TabAt (w1.setCell ⟨t, 6, none⟩ (.int .i64 (wrap64 (b2 + 1)))) t mb r ys (adel m e.flow) { T with l := ys.map Prod.snd } := by
      refine ⟨⟨b1, wrap64 (b2 + 1), ?_⟩, ?_, hTab.maps, hTab.len, ?_, hTab.nodup, rfl⟩
      · rw [heap_set ht1]; rfl
      · rw [hasMap_setCell]; exact hTab.map
      · obtain ⟨nx', pv', hr'⟩ := hTab.ring
        refine ⟨nx', pv', hr'.keep fun q hq => heap_set_ne _ _ _ (fun e1 : q = t => ?_)⟩
        have := hTab.nodup
        rw [List.nodup_cons] at this
        exact this.1 (e1 ▸ List.mem_cons_of_mem _ hq)
    refine hTab'.keep fun q hq => ?_
    have hq' : q ≠ w.heap.size := by
      have : q < w.heap.size := h.lt q (by
        simp only [List.nil_append, List.map_cons, List.mem_cons] at hq ⊢
        rcases hq with h1 | h1 | h1 | h1
        · exact .inl h1
        · exact .inr (.inl h1)
        · exact .inr (.inr (.inl h1))
        · exact .inr (.inr (.inr (.inr h1))))
      omega
    iterate 7 rw [heap_set_ne _ _ _ hq']
  · (repeat (first | (with_reducible exact Fr.refl _ _) | (with_reducible assumption) | (with_reducible refine Fr.drew ?_) | (with_reducible refine Fr.drewN ?_ _) | (with_reducible refine Fr.alloc ?_ _) | (with_reducible refine Fr.mput ?_ _ _ _ (.inl (by simp))) | (with_reducible refine Fr.mdel ?_ _ _ (.inl (by simp))) | (with_reducible refine Fr.set ?_ _ _ (.inr (by first | omega | (dsimp only; omega)))) | (with_reducible refine Fr.set ?_ _ _ (.inl (by simp)))))

theorem spare_any {w : World} {t mb r : Nat} {L : List (Nat × Ent)} {m : List (Flow × Nat)} {T : FTab} (h : TabAt w t mb r L m T) (hroom : 1 ≤ T.room) :
    Calls Tryz.prog 70 #[.pointer (some ⟨t, 0, none⟩)] w (SparePost w t mb r L T) := by
  by_cases hr : (L.length : Int) < T.room
  · exact spare_room h hr
  · cases L with
    | nil => simp at hr; omega
    | cons x ys => exact spare_full h hr
end Go.Proofs.YthahlimmmnmniaaGreatDoor

namespace Go.Proofs.YthahlimmmnmniaaGreatDoor
open Go.RowKit Go.Fw

theorem put_flow {m : List (Flow × Nat)} {mb : Nat} (f : Flow) (p : Nat) (W : World) (h : HasMap W mb Flow.val ptrVal m) :
    (Instr.mapUpdate 97 (.map (some mb)) (.agg #[.int .i64 f.proto, .int .u32 f.src, .int .u32 f.dst, .int .i64 f.sport, .int .i64 f.dport]) (.pointer (some ⟨p, 0, none⟩))).run Tryz.prog W =
      .ok () (W.mput mb (.agg #[.int .i64 f.proto, .int .u32 f.src, .int .u32 f.dst, .int .i64 f.sport, .int .i64 f.dport]) (.pointer (some ⟨p, 0, none⟩))) :=
  HasMap.update flow_law Tryz.underlying97 f _ h

theorem flow_cells {w : World} {b : Nat} {a1 a2 a3 a4 a5 : Value} (h : w.heap[b]? = some (.cells #[a1, a2, a3, a4, a5] 31 (0, 0))) :
    w.cell? ⟨b, 0, none⟩ = some a1 ∧ w.cell? ⟨b, 1, none⟩ = some a2 ∧ w.cell? ⟨b, 2, none⟩ = some a3 ∧ w.cell? ⟨b, 3, none⟩ = some a4 ∧ w.cell? ⟨b, 4, none⟩ = some a5 :=
  ⟨cell_at h 0 rfl, cell_at h 1 rfl, cell_at h 2 rfl, cell_at h 3 rfl, cell_at h 4 rfl⟩

theorem spared_sub {L : List (Nat × Ent)} {room : Int} {x : Nat × Ent} (h : x ∈ spared L room) : x ∈ L := by
  unfold spared at h
  split at h
  · exact h
  · exact List.mem_of_mem_tail h

theorem aput_new {α β : Type} [DecidableEq α] {l : List (α × β)} {k : α} (v : β) (h : k ∉ l.map Prod.fst) : aput l k v = l ++ [(k, v)] := if_neg h

set_option maxHeartbeats 1000000 in
theorem put_miss {w : World} {t mb r : Nat} {L : List (Nat × Ent)} {m : List (Flow × Nat)} {T : FTab} (h : TabAt w t mb r L m T) (hroom : 1 ≤ T.room) (f : Flow) (hf : ∀ e ∈ T.l, e.flow ≠ f) (b now : Int) :
    Calls Tryz.prog 35 #[.pointer (some ⟨t, 0, none⟩), .agg #[.int .i64 f.proto, .int .u32 f.src, .int .u32 f.dst, .int .i64 f.sport, .int .i64 f.dport], .int .i64 b, .int .i64 now] w
      fun en w' => ∃ p m', PutPost w t mb r L (spared L T.room ++ [(p, ⟨f, b, max T.now now⟩)]) m' ⟨T.room, T.idle, max T.now now, (spared L T.room).map Prod.snd ++ [⟨f, b, max T.now now⟩]⟩ en w' := by
  obtain ⟨c1, c2, ht⟩ := h.tab
  have hm := h.map
  have lk : ∀ W : World, HasMap W mb Flow.val ptrVal m → _ := fun W hW => look_flow f W hW
  simp only [h.miss hf, Option.map_none, Option.getD_none] at lk
  obtain ⟨_, _, t2, t3, t4, _, _⟩ := tab_cells ht
  have f2 := free_at ht 2
  obtain ⟨htl0, htl1, htl2, htl3, _, _⟩ := lts (lt_of ht)
  clear ht
  have HF := Lib.hid hf
  clear hf
  go_enter Tryz.func35, Tryz.ntmps35
  go_wp2_with (first
    | (go_at_call 42; refine (made_walk t r _ ?_).mono ?_; (go_simp); rintro en w1 ⟨rfl, rfl⟩)
    | (go_at_call 69; refine (time_walk t T.now now _ ?_ ?_).mono ?_; (go_simp); (go_simp); rintro en w1 ⟨rfl, rfl⟩))
  go_quiet (fail)
  go_wp2_with fail
  have h0 := fun A B C => (((((h.time (max T.now now)).alloc A).alloc B).alloc C).drewN nq)
  have hsp := fun A B C => spare_any (h0 A B C) hroom
  refine (hsp _ _ _).mono ?_
  rintro en w1 ⟨ge, bo, m1, rfl, hT1, hfr⟩
  have hA := hfr.keep (k := w.heap.size) (o := .cells #[.int .i64 f.proto, .int .u32 f.src, .int .u32 f.dst, .int .i64 f.sport, .int .i64 f.dport] 31 (0, 0)) (by (try simp only [heap_drewN, heap_drew, heap_alloc_if, World.size_alloc, World.size_setCell, size_mput, size_mdel]); (first | (simp; done) | (simp [zeroEntry]; done) | (simp; omega) | (simp [zeroEntry]; omega))) (h.nin (by omega))
  have hB := hfr.keep (k := w.heap.size + 1) (o := zeroEntry) (by (try simp only [heap_drewN, heap_drew, heap_alloc_if, World.size_alloc, World.size_setCell, size_mput, size_mdel]); (first | (simp; done) | (simp [zeroEntry]; done) | (simp; omega) | (simp [zeroEntry]; omega))) (h.nin (by omega))
  have hC := hfr.keep (k := w.heap.size + 1 + 1) (o := zeroEntry) (by (try simp only [heap_drewN, heap_drew, heap_alloc_if, World.size_alloc, World.size_setCell, size_mput, size_mdel]); (first | (simp; done) | (simp [zeroEntry]; done) | (simp; omega) | (simp [zeroEntry]; omega))) (h.nin (by omega))
  have hs0 := hfr.size
  simp only [size_drewN', World.size_alloc, World.size_setCell] at hs0
  have hF := (((((Fr.refl (t :: mb :: r :: L.map Prod.fst) (w.setCell ⟨t, 2, none⟩ (.int .i64 (max T.now now)))).alloc _).alloc _).alloc _).drewN nq).trans hfr (fun x hx => .inl hx)
  have hlt := h.lt
  obtain ⟨d1, d2, ht1⟩ := hT1.tab
  obtain ⟨_, _, t2', t3', t4', t5', _⟩ := tab_cells ht1
  have tf5 := free_at ht1 5
  have hm1 := hT1.map
  have up := fun (q : Nat) (W : World) (hW : HasMap W mb Flow.val ptrVal m1) => put_flow f q W hW
  obtain ⟨a0, a1, a2, a3, a4⟩ := flow_cells hA
  obtain ⟨⟨b0, b1, b2, b3, b4, b5, b6⟩, g0, g1, g2, g3, g4, g5, g6⟩ := entry_cells hB
  obtain ⟨⟨e0, e1, e2, e3, e4, e5, e6⟩, k0, k1, k2, k3, k4, k5, k6⟩ := entry_cells hC
  have htA : t ≠ w.heap.size := by omega
  have htB : t ≠ w.heap.size + 1 := by omega
  have htC : t ≠ w.heap.size + 1 + 1 := by omega
  have hAl : w.heap.size < w1.heap.size := by omega
  have hBl : w.heap.size + 1 < w1.heap.size := by omega
  have hCl : w.heap.size + 1 + 1 < w1.heap.size := by omega
  have htl1' : t < w1.heap.size := by omega
  have HH := Lib.hid (And.intro hT1 (And.intro hF (And.intro ht1 (And.intro hA (And.intro hB hC)))))
  clear hT1 hF ht1 hA hB hC hfr lk t2 t3 t4 f2 hm
  go_wp2_with fail
  go_region
  all_goals go_wp2_with fail
  obtain ⟨hT1, hF, ht1, hA, hB, hC⟩ := HH.out
  obtain ⟨nx1, pv1, hring1⟩ := hT1.ring
  have hl1 := hT1.lt
  have hsub : ∀ q ∈ t :: mb :: r :: (spared L T.room).map Prod.fst, q < w.heap.size := by
    intro q hq
    refine hlt q ?_
    simp only [List.mem_cons, List.mem_map] at hq ⊢
    rcases hq with h1 | h1 | h1 | ⟨x, h1, h2⟩
    · exact .inl h1
    · exact .inr (.inl h1)
    · exact .inr (.inr (.inl h1))
    · exact .inr (.inr (.inr ⟨x, spared_sub h1, h2⟩))
  have hnd := hT1.nodup
  simp only [List.nodup_cons] at hnd
  obtain ⟨n1, n2, n3, n4⟩ := hnd
  refine (last_ring (t := t) (r := r) (n := max T.now now) (e := ⟨f, b, 0⟩) (vx := .pointer none) (vy := .pointer none) (L := spared L T.room) (hring1.keep ?_) ?_ ?_ ?_ ?_ ?_).mono ?_
  · intro q hq
    have hq' : q < w.heap.size := hsub q (List.mem_cons_of_mem _ (List.mem_cons_of_mem _ hq))
    have hqt : q ≠ t := fun e1 => n1 (e1 ▸ List.mem_cons_of_mem _ hq)
    have hqm : q ≠ mb := fun e1 => n2 (e1 ▸ hq)
    refine Fr.block (S := [w.heap.size + 1 + 1, t, mb]) ?_ q (by omega) (by simp; omega)
    (repeat (first | (with_reducible exact Fr.refl _ _) | (with_reducible assumption) | (with_reducible refine Fr.drew ?_) | (with_reducible refine Fr.drewN ?_ _) | (with_reducible refine Fr.alloc ?_ _) | (with_reducible refine Fr.mput ?_ _ _ _ (.inl (by simp))) | (with_reducible refine Fr.mdel ?_ _ _ (.inl (by simp))) | (with_reducible refine Fr.set ?_ _ _ (.inr (by first | omega | (dsimp only; omega)))) | (with_reducible refine Fr.set ?_ _ _ (.inl (by simp)))))
  · refine (heap_set (c := #[.int .i64 f.proto, .int .u32 f.src, .int .u32 f.dst, .int .i64 f.sport, .int .i64 f.dport, .int .i64 0, .int .i64 0, .pointer none, .pointer none]) (t := 101) (f := (0, 0)) ?_ _).trans rfl
    have hne : w1.heap.size ≠ mb := by have := hsub mb (by simp); omega
    rw [heap_mput_ne _ _ _ _ hne, heap_drew, heap_alloc_if]
    simp
  · go_simp
  · go_simp
  · intro hc
    have := hsub _ (List.mem_cons_of_mem _ (List.mem_cons_of_mem _ hc))
    omega
  · intro hc
    rcases List.mem_cons.1 hc with h1 | h1
    · omega
    · exact n1 (List.mem_cons_of_mem _ h1)
  rintro en w2 ⟨rfl, hring2, hfr2, hsz2⟩
  simp only [size_drewN', size_mput, World.size_drew, World.size_alloc, World.size_setCell] at hsz2
  have nb : ∀ k, w.heap.size ≤ k → k < w1.heap.size → k ∉ w1.heap.size :: r :: (spared L T.room).map Prod.fst := fun k hk hk' hc => by
    rcases List.mem_cons.1 hc with h1 | h1
    · omega
    · have := hsub _ (List.mem_cons_of_mem _ (List.mem_cons_of_mem _ h1)); omega
  have htn : t ∉ w1.heap.size :: r :: (spared L T.room).map Prod.fst := fun hc => by
    rcases List.mem_cons.1 hc with h1 | h1
    · omega
    · exact n1 (List.mem_cons_of_mem _ h1)
  have hmn : mb ∉ w1.heap.size :: r :: (spared L T.room).map Prod.fst := fun hc => by
    rcases List.mem_cons.1 hc with h1 | h1
    · have := hsub mb (by simp); omega
    · exact n2 h1
  have x0 := (hfr2.cell (a := ⟨w.heap.size + 1 + 1, 0, none⟩) (by simp; omega) (nb (w.heap.size + 1 + 1) (by omega) (by omega))).trans (by go_simp; rfl)
  have x1 := (hfr2.cell (a := ⟨w.heap.size + 1 + 1, 1, none⟩) (by simp; omega) (nb (w.heap.size + 1 + 1) (by omega) (by omega))).trans (by go_simp; rfl)
  have x2 := (hfr2.cell (a := ⟨w.heap.size + 1 + 1, 2, none⟩) (by simp; omega) (nb (w.heap.size + 1 + 1) (by omega) (by omega))).trans (by go_simp; rfl)
  have x3 := (hfr2.cell (a := ⟨w.heap.size + 1 + 1, 3, none⟩) (by simp; omega) (nb (w.heap.size + 1 + 1) (by omega) (by omega))).trans (by go_simp; rfl)
  have x4 := (hfr2.cell (a := ⟨w.heap.size + 1 + 1, 4, none⟩) (by simp; omega) (nb (w.heap.size + 1 + 1) (by omega) (by omega))).trans (by go_simp; rfl)
  have x5 := (hfr2.cell (a := ⟨w.heap.size + 1 + 1, 5, none⟩) (by simp; omega) (nb (w.heap.size + 1 + 1) (by omega) (by omega))).trans (by go_simp; rfl)
  have x6 := (hfr2.cell (a := ⟨w.heap.size + 1 + 1, 6, none⟩) (by simp; omega) (nb (w.heap.size + 1 + 1) (by omega) (by omega))).trans (by go_simp; rfl)
  have htM : t ≠ mb := fun e1 => n1 (by simp [e1])
  have hB2 := hfr2.keep (k := w.heap.size + 1) (o := zeroEntry) (by
    refine (Fr.block (S := [w.heap.size + 1 + 1, t, mb]) (w := w1) ?_ (w.heap.size + 1) (by omega) (by simp; have := hsub mb (by simp); omega)).trans hB
    (repeat (first | (with_reducible exact Fr.refl _ _) | (with_reducible assumption) | (with_reducible refine Fr.drew ?_) | (with_reducible refine Fr.drewN ?_ _) | (with_reducible refine Fr.alloc ?_ _) | (with_reducible refine Fr.mput ?_ _ _ _ (.inl (by simp))) | (with_reducible refine Fr.mdel ?_ _ _ (.inl (by simp))) | (with_reducible refine Fr.set ?_ _ _ (.inr (by first | omega | (dsimp only; omega)))) | (with_reducible refine Fr.set ?_ _ _ (.inl (by simp)))))) (nb (w.heap.size + 1) (by omega) (by omega))
  have ht2 := hfr2.keep (k := t) (o := .cells #[.int .i64 T.room, .int .i64 T.idle, .int .i64 (max T.now now), .map (some mb), .pointer (some ⟨r, 0, none⟩), .int .i64 (wrap64 (d1 + 1)), .int .i64 d2] 99 (0, 0)) (by
    rw [heap_set_ne _ _ _ (by dsimp only; omega), heap_mput_ne _ _ _ _ htM, heap_drew, heap_alloc_if, if_neg (by simp; omega)]
    refine (heap_set (i := 5) (c := #[.int .i64 T.room, .int .i64 T.idle, .int .i64 (max T.now now), .map (some mb), .pointer (some ⟨r, 0, none⟩), .int .i64 d1, .int .i64 d2]) (t := 99) (f := (0, 0)) ?_ _).trans rfl
    iterate 7 rw [heap_set_ne _ _ _ (by dsimp only; omega)]
    exact ht1) htn
  have hm2 : HasMap w2 mb Flow.val ptrVal (aput m1 f w1.heap.size) := by
    refine HasMap.keep ?_ hfr2 hmn
    rw [hasMap_setCell]
    refine HasMap.put (ev := ptrVal) Flow.val_inj f w1.heap.size ?_
    simp
    exact hT1.map
  have hFr2 : Fr (t :: mb :: r :: L.map Prod.fst) w w2 := by
    refine Fr.trans ?_ hfr2 (fun x hx => ?_)
    · have h1 : Fr (t :: mb :: r :: L.map Prod.fst) w w1 := ((Fr.refl _ w).set _ _ (.inl (by simp))).trans hF (fun x hx => .inl hx)
      (repeat (first | (with_reducible exact Fr.refl _ _) | (with_reducible assumption) | (with_reducible refine Fr.drew ?_) | (with_reducible refine Fr.drewN ?_ _) | (with_reducible refine Fr.alloc ?_ _) | (with_reducible refine Fr.mput ?_ _ _ _ (.inl (by simp))) | (with_reducible refine Fr.mdel ?_ _ _ (.inl (by simp))) | (with_reducible refine Fr.set ?_ _ _ (.inr (by first | omega | (dsimp only; omega)))) | (with_reducible refine Fr.set ?_ _ _ (.inl (by simp)))))
    · rcases List.mem_cons.1 hx with h1 | h1
      · right; omega
      · left
        rcases List.mem_cons.1 h1 with h2 | h2
        · simp [h2]
        · obtain ⟨y, hy, rfl⟩ := List.mem_map.1 h2
          exact List.mem_cons_of_mem _ (List.mem_cons_of_mem _ (List.mem_cons_of_mem _ (List.mem_map.2 ⟨y, spared_sub hy, rfl⟩)))
  have hfl : ∀ x ∈ spared L T.room, x.2.flow ≠ f := fun x hx => HF.out x.2 (by rw [h.list]; exact List.mem_map.2 ⟨x, spared_sub hx, rfl⟩)
  have hnk : f ∉ m1.map Prod.fst := by
    intro hc
    obtain ⟨⟨g, q⟩, hx, rfl⟩ := List.mem_map.1 hc
    obtain ⟨e', h1, h2⟩ := (hT1.maps _ _).1 hx
    exact hfl _ h1 h2
  have hTab : TabAt w2 t mb r (spared L T.room ++ [(w1.heap.size, ⟨f, b, max T.now now⟩)]) (aput m1 f w1.heap.size) ⟨T.room, T.idle, max T.now now, (spared L T.room).map Prod.snd ++ [⟨f, b, max T.now now⟩]⟩ := by
    refine ⟨⟨_, _, ht2⟩, hm2, ?_, ?_, hring2, ?_, ?_⟩
    · intro g q
      rw [aput_new _ hnk, List.mem_append, hT1.maps]
      constructor
      · rintro (⟨e', h1, h2⟩ | h1)
        · exact ⟨e', List.mem_append_left _ h1, h2⟩
        · obtain ⟨rfl, rfl⟩ := Prod.mk.inj (List.mem_singleton.1 h1)
          exact ⟨_, List.mem_append_right _ (List.mem_singleton.2 rfl), rfl⟩
      · rintro ⟨e', h1, h2⟩
        rcases List.mem_append.1 h1 with h3 | h3
        · exact .inl ⟨e', h3, h2⟩
        · obtain ⟨rfl, rfl⟩ := Prod.mk.inj (List.mem_singleton.1 h3)
          exact .inr (by simp [← h2])
    · rw [aput_new _ hnk]
      have := hT1.len
      simp only [List.length_append, List.length_cons, List.length_nil] at this ⊢
      omega
    · have h1 : (t :: mb :: r :: (spared L T.room ++ [(w1.heap.size, (⟨f, b, max T.now now⟩ : Ent))]).map Prod.fst) = (t :: mb :: r :: (spared L T.room).map Prod.fst) ++ [w1.heap.size] := by simp
      rw [h1, List.nodup_append]
      refine ⟨hT1.nodup, by simp, fun x hx y hy => ?_⟩
      simp only [List.mem_singleton] at hy
      have := hsub x hx
      omega
    · simp
  obtain ⟨⟨y0, y1, y2, y3, y4, y5, y6⟩, z0, z1, z2, z3, z4, z5, z6⟩ := entry_cells hB2
  have HH2 := Lib.hid (And.intro hTab hFr2)
  clear hTab hFr2 hring2 hfr2 ht2 hm2 hB2 hring1 hT1 hF ht1 hA hB hC hsz2 hl1
  go_wp2
  refine bodyPost_ret (v := .tuple #[.agg #[.int .i64 ge.flow.proto, .int .u32 ge.flow.src, .int .u32 ge.flow.dst, .int .i64 ge.flow.sport, .int .i64 ge.flow.dport, .int .i64 ge.backend, .int .i64 ge.last], .bool bo]) (by simp [results, Tryz.results35, go_sem, y0, y1, y2, y3, y4, y5, y6]) rfl ?_
  obtain ⟨hTab, hFr2⟩ := HH2.out
  refine ⟨w1.heap.size, aput m1 f w1.heap.size, ⟨_, rfl⟩, ?_, ?_, ?_⟩
  · refine hTab.keep fun q hq => ?_
    have hq' : q ≠ w.heap.size + 1 := by
      have : q < w.heap.size ∨ q = w1.heap.size := by
        rw [show (t :: mb :: r :: (spared L T.room ++ [(w1.heap.size, (⟨f, b, max T.now now⟩ : Ent))]).map Prod.fst) = (t :: mb :: r :: (spared L T.room).map Prod.fst) ++ [w1.heap.size] by simp] at hq
        rcases List.mem_append.1 hq with h1 | h1
        · exact .inl (hsub _ h1)
        · exact .inr (List.mem_singleton.1 h1)
      omega
    iterate 7 rw [heap_set_ne _ _ _ hq']
  · intro x hx
    simp only [List.map_append, List.map_cons, List.map_nil, List.mem_append, List.mem_singleton] at hx
    rcases hx with h1 | h1
    · obtain ⟨y, hy, rfl⟩ := List.mem_map.1 h1
      exact .inl (List.mem_map.2 ⟨y, spared_sub hy, rfl⟩)
    · right; omega
  · (repeat (first | (with_reducible exact Fr.refl _ _) | (with_reducible assumption) | (with_reducible refine Fr.drew ?_) | (with_reducible refine Fr.drewN ?_ _) | (with_reducible refine Fr.alloc ?_ _) | (with_reducible refine Fr.mput ?_ _ _ _ (.inl (by simp))) | (with_reducible refine Fr.mdel ?_ _ _ (.inl (by simp))) | (with_reducible refine Fr.set ?_ _ _ (.inr (by first | omega | (dsimp only; omega)))) | (with_reducible refine Fr.set ?_ _ _ (.inl (by simp)))))
end Go.Proofs.YthahlimmmnmniaaGreatDoor

namespace Go.Proofs.YthahlimmmnmniaaGreatDoor
open Go.RowKit Go.Fw

def mix (x : Int) : Int :=
  let a := IntKind.u64.wrap (x + 11400714819323198485)
  let b := IntKind.u64.wrap (bits .xor .u64 a (a / 1073741824) * 13787848793156543929)
  let c := IntKind.u64.wrap (bits .xor .u64 b (b / 134217728) * 10723151780598845931)
  bits .xor .u64 c (c / 2147483648)

theorem wrap64_bd (n : Int) : 0 ≤ IntKind.u64.wrap n ∧ IntKind.u64.wrap n < 18446744073709551616 := by
  have : IntKind.u64.wrap n = n % 18446744073709551616 := by simp [IntKind.wrap, IntKind.bits, IntKind.signed]
  rw [this]
  omega
theorem wrap64_of (n : Int) (h0 : 0 ≤ n) (h1 : n < 18446744073709551616) : IntKind.u64.wrap n = n := by
  have : IntKind.u64.wrap n = n % 18446744073709551616 := by simp [IntKind.wrap, IntKind.bits, IntKind.signed]
  rw [this]
  omega
theorem xor_bd (a b : Int) : 0 ≤ bits .xor .u64 a b ∧ bits .xor .u64 a b < 18446744073709551616 := by
  unfold bits
  exact wrap64_bd _
theorem mix_bd (x : Int) : 0 ≤ mix x ∧ mix x < 18446744073709551616 := xor_bd _ _

set_option maxHeartbeats 400000 in
theorem rmix_any (x : Int) (w : World) : Calls Tryz.prog 48 #[.int .u64 x] w fun en w' => en = .returned (.int .u64 (mix x)) ∧ w = w' := by
  have h0 := (wrap64_bd (x + 11400714819323198485)).1
  have h1 := (wrap64_bd (bits .xor .u64 (IntKind.u64.wrap (x + 11400714819323198485)) (IntKind.u64.wrap (x + 11400714819323198485) / 1073741824) * 13787848793156543929)).1
  go_enter Tryz.func48, Tryz.ntmps48
  go_wp2
  go_returns
  exact ⟨rfl, rfl⟩

set_option maxHeartbeats 400000 in
theorem step30 (x t : Int) (b : Nat) (w : World) (h0 : 0 ≤ x) (hc : w.cell? ⟨b, 0, none⟩ = some (.int .u64 x)) (hf : w.frozen? ⟨b, 0, none⟩ = false) :
    Calls Tryz.prog 123 #[.int .i64 30, .int .u64 t, .pointer (some ⟨b, 0, none⟩)] w fun en w' => en = .returned (.tuple #[]) ∧ w' = (w.setCell ⟨b, 0, none⟩ (.int .u64 (IntKind.u64.wrap (bits .xor .u64 x (x / 1073741824) * t)))).drew := by
  go_enter Tryz.func123, Tryz.ntmps123
  go_wp2
  go_region
  all_goals go_returns
  all_goals exact ⟨rfl, rfl⟩

set_option maxHeartbeats 400000 in
theorem step27 (x t : Int) (b : Nat) (w : World) (h0 : 0 ≤ x) (hc : w.cell? ⟨b, 0, none⟩ = some (.int .u64 x)) (hf : w.frozen? ⟨b, 0, none⟩ = false) :
    Calls Tryz.prog 123 #[.int .i64 27, .int .u64 t, .pointer (some ⟨b, 0, none⟩)] w fun en w' => en = .returned (.tuple #[]) ∧ w' = (w.setCell ⟨b, 0, none⟩ (.int .u64 (IntKind.u64.wrap (bits .xor .u64 x (x / 134217728) * t)))).drew := by
  go_enter Tryz.func123, Tryz.ntmps123
  go_wp2
  go_region
  all_goals go_returns
  all_goals exact ⟨rfl, rfl⟩

set_option maxHeartbeats 400000 in
theorem step31 (x t : Int) (b : Nat) (w : World) (h0 : 0 ≤ x) (hc : w.cell? ⟨b, 0, none⟩ = some (.int .u64 x)) (hf : w.frozen? ⟨b, 0, none⟩ = false) :
    Calls Tryz.prog 123 #[.int .i64 31, .int .u64 t, .pointer (some ⟨b, 0, none⟩)] w fun en w' => en = .returned (.tuple #[]) ∧ w' = (w.setCell ⟨b, 0, none⟩ (.int .u64 (IntKind.u64.wrap (bits .xor .u64 x (x / 2147483648) * t)))).drew := by
  go_enter Tryz.func123, Tryz.ntmps123
  go_wp2
  go_region
  all_goals go_returns
  all_goals exact ⟨rfl, rfl⟩

set_option maxHeartbeats 400000 in
theorem mix_any (x : Int) (w : World) : Calls Tryz.prog 102 #[.int .u64 x] w fun en w' => en = .returned (.int .u64 (mix x)) ∧ Fr [] w w' := by
  have h0 := (wrap64_bd (x + 11400714819323198485)).1
  have h1 := (wrap64_bd (bits .xor .u64 (IntKind.u64.wrap (x + 11400714819323198485)) (IntKind.u64.wrap (x + 11400714819323198485) / 1073741824) * 13787848793156543929)).1
  have h2 := (wrap64_bd (bits .xor .u64 (IntKind.u64.wrap (bits .xor .u64 (IntKind.u64.wrap (x + 11400714819323198485)) (IntKind.u64.wrap (x + 11400714819323198485) / 1073741824) * 13787848793156543929)) (IntKind.u64.wrap (bits .xor .u64 (IntKind.u64.wrap (x + 11400714819323198485)) (IntKind.u64.wrap (x + 11400714819323198485) / 1073741824) * 13787848793156543929) / 134217728) * 10723151780598845931)).1
  have hx := xor_bd (IntKind.u64.wrap (bits .xor .u64 (IntKind.u64.wrap (bits .xor .u64 (IntKind.u64.wrap (x + 11400714819323198485)) (IntKind.u64.wrap (x + 11400714819323198485) / 1073741824) * 13787848793156543929)) (IntKind.u64.wrap (bits .xor .u64 (IntKind.u64.wrap (x + 11400714819323198485)) (IntKind.u64.wrap (x + 11400714819323198485) / 1073741824) * 13787848793156543929) / 134217728) * 10723151780598845931)) (IntKind.u64.wrap (bits .xor .u64 (IntKind.u64.wrap (bits .xor .u64 (IntKind.u64.wrap (x + 11400714819323198485)) (IntKind.u64.wrap (x + 11400714819323198485) / 1073741824) * 13787848793156543929)) (IntKind.u64.wrap (bits .xor .u64 (IntKind.u64.wrap (x + 11400714819323198485)) (IntKind.u64.wrap (x + 11400714819323198485) / 1073741824) * 13787848793156543929) / 134217728) * 10723151780598845931) / 2147483648)
  have hm : mix x = mix x := rfl
  conv at hm => lhs; unfold mix
  dsimp only at hm
  have hw := wrap64_of _ hx.1 hx.2
  rw [hm] at hx hw
  have HM := Lib.hid hm
  have HW := Lib.hid hw
  clear hx hm hw
  generalize hA : IntKind.u64.wrap (x + 11400714819323198485) = a at *
  generalize hB : IntKind.u64.wrap (bits .xor .u64 a (a / 1073741824) * 13787848793156543929) = b at *
  generalize hC : IntKind.u64.wrap (bits .xor .u64 b (b / 134217728) * 10723151780598845931) = c at *
  go_enter Tryz.func102, Tryz.ntmps102
  go_wp2_with fail
  refine (step30 a _ _ _ h0 ?_ ?_).mono ?_
  · go_simp
  · go_simp
  rintro en w1 ⟨rfl, hw1⟩
  rw [hB] at hw1
  subst hw1
  go_wp2_with fail
  refine (step27 b _ _ _ h1 ?_ ?_).mono ?_
  · go_simp
  · go_simp
  rintro en w1 ⟨rfl, hw1⟩
  rw [hC] at hw1
  subst hw1
  go_wp2_with fail
  refine (step31 c _ _ _ h2 ?_ ?_).mono ?_
  · go_simp
  · go_simp
  rintro en w1 ⟨rfl, hw1⟩
  rw [Int.mul_one, HM.out, HW.out] at hw1
  subst hw1
  go_wp2
  go_returns
  exact ⟨rfl, by (repeat (first | (with_reducible exact Fr.refl _ _) | (with_reducible assumption) | (with_reducible refine Fr.drew ?_) | (with_reducible refine Fr.drewN ?_ _) | (with_reducible refine Fr.alloc ?_ _) | (with_reducible refine Fr.mput ?_ _ _ _ (.inl (by simp))) | (with_reducible refine Fr.mdel ?_ _ _ (.inl (by simp))) | (with_reducible refine Fr.set ?_ _ _ (.inr (by first | omega | (dsimp only; omega)))) | (with_reducible refine Fr.set ?_ _ _ (.inl (by simp)))))⟩
end Go.Proofs.YthahlimmmnmniaaGreatDoor

namespace Go.Proofs.YthahlimmmnmniaaGreatDoor
open Go.RowKit Go.Fw

def key (f : Flow) : Int :=
  mix (bits .xor .u64 (mix (bits .xor .u64 (mix (bits .xor .u64 (mix (bits .xor .u64 (mix (bits .xor .u64 0 (IntKind.u64.wrap f.proto))) (IntKind.u64.wrap f.src))) (IntKind.u64.wrap f.dst))) (IntKind.u64.wrap f.sport))) (IntKind.u64.wrap f.dport))

def scoreTo (b : Int) : Nat → Int
  | 0 => 0
  | k + 1 => max (scoreTo b k) (mix (bits .xor .u64 b (((k : Int) + 1))))
def score (k id weight : Int) : Int := scoreTo (mix (bits .xor .u64 k (IntKind.u64.wrap id))) weight.toNat
theorem scoreTo_pos (b : Int) : ∀ k, 0 ≤ scoreTo b k
  | 0 => Int.le_refl _
  | k + 1 => by
    have := scoreTo_pos b k
    unfold scoreTo
    omega

set_option maxHeartbeats 1000000 in
theorem rkey_any (f : Flow) (w : World) : Calls Tryz.prog 12 #[.agg #[.int .i64 f.proto, .int .u32 f.src, .int .u32 f.dst, .int .i64 f.sport, .int .i64 f.dport]] w fun en w' => en = .returned (.int .u64 (key f)) ∧ Fr [] w w' := by
  have ix : ∀ (a b c d e : Int) w, (Instr.index 111 (.agg #[.int .u64 a, .int .u64 b, .int .u64 c, .int .u64 d, .int .u64 e]) (.int .i64 0)).run Tryz.prog w = .ok (.int .u64 a) w ∧ (Instr.index 111 (.agg #[.int .u64 a, .int .u64 b, .int .u64 c, .int .u64 d, .int .u64 e]) (.int .i64 1)).run Tryz.prog w = .ok (.int .u64 b) w ∧ (Instr.index 111 (.agg #[.int .u64 a, .int .u64 b, .int .u64 c, .int .u64 d, .int .u64 e]) (.int .i64 2)).run Tryz.prog w = .ok (.int .u64 c) w ∧
      (Instr.index 111 (.agg #[.int .u64 a, .int .u64 b, .int .u64 c, .int .u64 d, .int .u64 e]) (.int .i64 3)).run Tryz.prog w = .ok (.int .u64 d) w ∧ (Instr.index 111 (.agg #[.int .u64 a, .int .u64 b, .int .u64 c, .int .u64 d, .int .u64 e]) (.int .i64 4)).run Tryz.prog w = .ok (.int .u64 e) w := fun a b c d e _ => ⟨by kernel_rfl, by kernel_rfl, by kernel_rfl, by kernel_rfl, by kernel_rfl⟩
  have i0 := fun a b c d e w => (ix a b c d e w).1
  have i1 := fun a b c d e w => (ix a b c d e w).2.1
  have i2 := fun a b c d e w => (ix a b c d e w).2.2.1
  have i3 := fun a b c d e w => (ix a b c d e w).2.2.2.1
  have i4 := fun a b c d e w => (ix a b c d e w).2.2.2.2
  clear ix
  go_enter Tryz.func12, Tryz.ntmps12
  go_wp2
  refine wp_loop_rounds 6 ?_
  iterate 5
    rw [rounds_succ]
    go_wp2_with (go_at_call 48; refine (rmix_any _ _).mono ?_; rintro en w1 ⟨rfl, hw⟩; obtain rfl := hw)
  rw [rounds_succ]; go_wp2
  go_returns
  exact ⟨rfl, by (repeat (first | (with_reducible exact Fr.refl _ _) | (with_reducible assumption) | (with_reducible refine Fr.drew ?_) | (with_reducible refine Fr.drewN ?_ _) | (with_reducible refine Fr.alloc ?_ _) | (with_reducible refine Fr.mput ?_ _ _ _ (.inl (by simp))) | (with_reducible refine Fr.mdel ?_ _ _ (.inl (by simp))) | (with_reducible refine Fr.set ?_ _ _ (.inr (by first | omega | (dsimp only; omega)))) | (with_reducible refine Fr.set ?_ _ _ (.inl (by simp)))))⟩


set_option maxHeartbeats 1000000 in
theorem key_any (f : Flow) (w : World) : Calls Tryz.prog 89 #[.agg #[.int .i64 f.proto, .int .u32 f.src, .int .u32 f.dst, .int .i64 f.sport, .int .i64 f.dport]] w fun en w' => en = .returned (.int .u64 (key f)) ∧ Fr [] w w' := by
  have ix : ∀ (a b c d e : Int) w, (Instr.index 111 (.agg #[.int .u64 a, .int .u64 b, .int .u64 c, .int .u64 d, .int .u64 e]) (.int .i64 0)).run Tryz.prog w = .ok (.int .u64 a) w ∧ (Instr.index 111 (.agg #[.int .u64 a, .int .u64 b, .int .u64 c, .int .u64 d, .int .u64 e]) (.int .i64 1)).run Tryz.prog w = .ok (.int .u64 b) w ∧ (Instr.index 111 (.agg #[.int .u64 a, .int .u64 b, .int .u64 c, .int .u64 d, .int .u64 e]) (.int .i64 2)).run Tryz.prog w = .ok (.int .u64 c) w ∧
      (Instr.index 111 (.agg #[.int .u64 a, .int .u64 b, .int .u64 c, .int .u64 d, .int .u64 e]) (.int .i64 3)).run Tryz.prog w = .ok (.int .u64 d) w ∧ (Instr.index 111 (.agg #[.int .u64 a, .int .u64 b, .int .u64 c, .int .u64 d, .int .u64 e]) (.int .i64 4)).run Tryz.prog w = .ok (.int .u64 e) w := fun a b c d e _ => ⟨by kernel_rfl, by kernel_rfl, by kernel_rfl, by kernel_rfl, by kernel_rfl⟩
  have i0 := fun a b c d e w => (ix a b c d e w).1
  have i1 := fun a b c d e w => (ix a b c d e w).2.1
  have i2 := fun a b c d e w => (ix a b c d e w).2.2.1
  have i3 := fun a b c d e w => (ix a b c d e w).2.2.2.1
  have i4 := fun a b c d e w => (ix a b c d e w).2.2.2.2
  clear ix
  go_enter Tryz.func89, Tryz.ntmps89
  go_wp2
  refine wp_loop_rounds 6 ?_
  iterate 5
    rw [rounds_succ]
    go_wp2_with (go_at_call 102; refine (mix_any _ _).mono ?_; rintro en w1 ⟨rfl, hfr⟩; (have hF := Fr.trans (S := []) (a := w) (by (repeat (first | (with_reducible exact Fr.refl _ _) | (with_reducible assumption) | (with_reducible refine Fr.drew ?_) | (with_reducible refine Fr.drewN ?_ _) | (with_reducible refine Fr.alloc ?_ _) | (with_reducible refine Fr.mput ?_ _ _ _ (.inl (by simp))) | (with_reducible refine Fr.mdel ?_ _ _ (.inl (by simp))) | (with_reducible refine Fr.set ?_ _ _ (.inr (by first | omega | (dsimp only; omega)))) | (with_reducible refine Fr.set ?_ _ _ (.inl (by simp)))))) hfr (by simp)); clear hfr)
  rw [rounds_succ]; go_wp2
  go_returns
  exact ⟨rfl, by (repeat (first | (with_reducible exact Fr.refl _ _) | (with_reducible assumption) | (with_reducible refine Fr.drew ?_) | (with_reducible refine Fr.drewN ?_ _) | (with_reducible refine Fr.alloc ?_ _) | (with_reducible refine Fr.mput ?_ _ _ _ (.inl (by simp))) | (with_reducible refine Fr.mdel ?_ _ _ (.inl (by simp))) | (with_reducible refine Fr.set ?_ _ _ (.inr (by first | omega | (dsimp only; omega)))) | (with_reducible refine Fr.set ?_ _ _ (.inl (by simp)))))⟩


theorem base_any (k id : Int) (w : World) : Calls Tryz.prog 103 #[.int .u64 k, .int .i64 id] w fun en w' => en = .returned (.int .u64 (mix (bits .xor .u64 k (IntKind.u64.wrap id)))) ∧ Fr [] w w' := by
  go_enter Tryz.func103, Tryz.ntmps103
  go_wp2_with (go_at_call 102; refine (mix_any _ _).mono ?_; rintro en w1 ⟨rfl, hfr⟩)
  go_returns
  exact ⟨rfl, hfr⟩

theorem rone_any (k id i : Int) (w : World) : Calls Tryz.prog 52 #[.int .u64 k, .int .i64 id, .int .i64 i] w fun en w' => en = .returned (.int .u64 (mix (bits .xor .u64 (mix (bits .xor .u64 k (IntKind.u64.wrap id))) (IntKind.u64.wrap i)))) ∧ w = w' := by
  go_enter Tryz.func52, Tryz.ntmps52
  go_wp2_with (go_at_call 48; refine (rmix_any _ _).mono ?_; rintro en w1 ⟨rfl, hw⟩; obtain rfl := hw)
  go_returns
  exact ⟨rfl, rfl⟩

def ScoreRel (b : Int) (n : Nat) (w : World) (v i : Value) (wr : World) : Prop := ∃ k : Nat, k ≤ n ∧ i = .int .i64 k ∧ v = .int .u64 (scoreTo b k) ∧ Fr [] w wr

set_option maxHeartbeats 1000000 in
theorem score_any (k id : Int) (n : Nat) (hn : n ≤ 100) (w : World) : Calls Tryz.prog 90 #[.int .u64 k, .int .i64 id, .int .i64 n] w fun en w' => en = .returned (.int .u64 (score k id n)) ∧ Fr [] w w' := by
  have hs : score k id n = scoreTo (mix (bits .xor .u64 k (IntKind.u64.wrap id))) n := by unfold score; rw [Int.toNat_natCast]
  have HS := Lib.hid hs
  clear hs
  generalize hB : mix (bits .xor .u64 k (IntKind.u64.wrap id)) = b at *
  have HB := Lib.hid hB
  clear hB
  have n0 : (0 : Int) ≤ n := by omega
  have n1 : (n : Int) ≤ 100 := by omega
  go_enter Tryz.func90, Tryz.ntmps90
  go_wp2_with fail
  refine (base_any _ _ _).mono ?_
  rintro en w1 ⟨rfl, hfr⟩
  rw [HB.out]
  go_wp2
  go_loopw [7, 16] (fun v i wr => ScoreRel b n w v i wr) (fun _ i _ => n - (intOf i).toNat)
  case atStart => exact ⟨0, Nat.zero_le _, rfl, rfl, hfr⟩
  case round =>
    obtain ⟨j, hj, rfl, rfl, hfr2⟩ := hrel
    have hm := mix_bd (bits .xor .u64 b (((j : Int) + 1)))
    have hp := scoreTo_pos b j
    by_cases hlt : j < n
    · have hsucc : scoreTo b (j + 1) = max (scoreTo b j) (mix (bits .xor .u64 b (((j : Int) + 1)))) := rfl
      have HH := Lib.hid (And.intro hsucc hfr2)
      clear hsucc hfr2 hfr
      go_wp2_with fail
      refine (mix_any _ _).mono ?_
      rintro en w3 ⟨rfl, hfr3⟩
      have HF := Lib.hid hfr3
      clear hfr3
      go_wp2
      all_goals go_roundw
      all_goals clear hm hp
      all_goals have hwj := wrap64_of ((j : Int) + 1) (by omega) (by omega)
      all_goals first
        | (refine ⟨j + 1, by omega, by go_num, ?_, HH.out.2.trans HF.out (by simp)⟩; rw [HH.out.1]; simp only [Int.max_def]; split <;> first | (with_reducible rfl) | exact congrArg (Value.int .u64) (by omega))
        | (simp [intOf]; omega)
    · obtain rfl : j = n := by omega
      have HH := Lib.hid hfr2
      clear hfr2 hfr
      go_wp2
      go_returns
      exact ⟨by rw [HS.out]; rfl, HH.out⟩

set_option maxHeartbeats 1000000 in
theorem rscore_any (k id : Int) (n : Nat) (hn : n ≤ 100) (w : World) : Calls Tryz.prog 15 #[.int .u64 k, .int .i64 id, .int .i64 n] w fun en w' => en = .returned (.int .u64 (score k id n)) ∧ w = w' := by
  have hs : score k id n = scoreTo (mix (bits .xor .u64 k (IntKind.u64.wrap id))) n := by unfold score; rw [Int.toNat_natCast]
  have HS := Lib.hid hs
  clear hs
  have n0 : (0 : Int) ≤ n := by omega
  have n1 : (n : Int) ≤ 100 := by omega
  go_enter Tryz.func15, Tryz.ntmps15
  go_wp2
  go_loop [7, 8] (fun v i => ∃ j : Nat, j ≤ n ∧ i = .int .i64 ((j : Int) + 1) ∧ v = .int .u64 (scoreTo (mix (bits .xor .u64 k (IntKind.u64.wrap id))) j)) (fun _ i => n + 1 - (intOf i).toNat)
  case atStart => exact ⟨0, Nat.zero_le _, rfl, rfl⟩
  case round =>
    obtain ⟨j, hj, rfl, rfl⟩ := hrel
    have hm := mix_bd (bits .xor .u64 (mix (bits .xor .u64 k (IntKind.u64.wrap id))) (((j : Int) + 1)))
    have hp := scoreTo_pos (mix (bits .xor .u64 k (IntKind.u64.wrap id))) j
    by_cases hlt : j < n
    · have hsucc : scoreTo (mix (bits .xor .u64 k (IntKind.u64.wrap id))) (j + 1) = max (scoreTo (mix (bits .xor .u64 k (IntKind.u64.wrap id))) j) (mix (bits .xor .u64 (mix (bits .xor .u64 k (IntKind.u64.wrap id))) (((j : Int) + 1)))) := rfl
      have HH := Lib.hid hsucc
      clear hsucc
      go_wp2_with (go_at_call 52; refine (rone_any _ _ _ _).mono ?_; rintro en w1 ⟨rfl, hw⟩; obtain rfl := hw)
      all_goals go_round
      all_goals clear hm hp
      all_goals have hwj := wrap64_of ((j : Int) + 1) (by omega) (by omega)
      all_goals first
        | (refine ⟨j + 1, by omega, by go_num, ?_⟩; rw [HH.out]; simp only [Int.max_def]; (try rw [hwj]); split <;> first | (with_reducible rfl) | exact congrArg (Value.int .u64) (by omega))
        | (simp [intOf]; omega)
    · obtain rfl : j = n := by omega
      go_wp2
      go_returns
      exact ⟨by rw [HS.out]; rfl, rfl⟩
end Go.Proofs.YthahlimmmnmniaaGreatDoor
